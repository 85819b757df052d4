/- Contract of fresh. -/
import Derived.Test.YtfljnfdeboibhaaStg
import Derived.Test.YtfljnfdeboibhaaStl
import Derived.Test.YtfljnfdeboibhaaBrn
import Derived.Deep.CutBlock
set_option linter.unusedVariables false
set_option linter.unusedSimpArgs false
namespace Go.Proofs.Tb
open Go.RowKit
attribute [local go_sem] cell_set_same

abbrev TNS : TypeId := 107
theorem np_info : (Try.prog.info? TNP).map (fun i => (i.zero, i.size, i.bytes)) = some (some (.pointer none), 1, 8) := by kernel_rfl
/-- The nodes that stand on no block, those beneath ahead of those above. -/
def MT.fr (B : Nat → Nat) : MT → List Nat
  | .nil => []
  | .node g _ _ l r => if 0 < B g then [] else l.fr B ++ r.fr B ++ [g]
theorem MT.fr_len (B : Nat → Nat) : ∀ t : MT, (t.fr B).length ≤ t.er.size
  | .nil => Nat.le_refl _
  | .node g k v l r => by
    have h1 := l.fr_len B
    have h2 := r.fr_len B
    simp only [MT.fr, MT.er, Tr.size]
    split
    · simp
    · simp only [List.length_append, List.length_cons, List.length_nil]; omega
def ptrs (gs : List Nat) : List Value := gs.map fun g => .pointer (some ⟨g, 0, none⟩)
theorem ptrs_len (gs : List Nat) : (ptrs gs).length = gs.length := by simp [ptrs]
theorem ptrs_app (a b : List Nat) : ptrs (a ++ b) = ptrs a ++ ptrs b := List.map_append
theorem ptrs_one (gs : List Nat) : ∀ u ∈ ptrs gs, u.oneCell' = true := fun u hu => by
  obtain ⟨g, _, rfl⟩ := List.mem_map.1 hu
  rfl
/-- A row of pointers to nodes. -/
def OwN (base : Nat) (w : World) (v : Value) (gs : List Nat) : Prop := w.ownsRow base TNP 1 v gs.length (ptrs gs)
theorem wp_appN {o : Oper} {a : Act} {K : Act → World → Prop} {Q : Exit → Act → World → Prop} {w : World} (s x : Operand)
    (ho : o.op = .call { callee := .builtin .append, args := #[s, x], argTypes := #[TNS, TNS] }) (base : Nat) (v : Value) (gs : List Nat) (hs : a.eval s = v) (hown : OwN base w v gs)
    (A : Option Addr) (m c : Nat) (hs' : List Nat) (hx : a.eval x = .slice A m c) (hr : Rv w 1 A m c (ptrs hs')) (hn : gs.length ≤ 1000000) (hm : m ≤ 1000000) (hbase : base ≤ w.heap.size)
    (h : ∀ A' n' c' w', OwN base w' (.slice A' n' c') (gs ++ hs') → Rv w' 1 A' n' c' (ptrs (gs ++ hs')) → Below base w w' → w.grownBy w' v.ownBlock → K (a.put o.dst (.slice A' n' c')) w') : Oper.wp Try.prog o a w K Q := by
  have hml : hs'.length = m := by have := hr.len; rw [ptrs_len, Nat.mul_one] at this; exact this
  refine wp_appR TNS TNP _ 1 8 np_info Try.underlying107 rfl (by omega) (by omega) s x ho base v gs.length (ptrs gs) hs hown A m c (ptrs hs') hx hr (ptrs_one _) hn hm hbase ?_
  intro v3 w3 hrow hgr hbel
  have hO : OwN base w3 v3 (gs ++ hs') := by
    unfold OwN
    rw [List.length_append, hml, ptrs_app]
    exact hrow
  obtain ⟨A', c', e, hr'⟩ := own_rv hO
  subst e
  exact h _ _ _ _ hO hr' hbel hgr
set_option maxHeartbeats 6400000 in
set_option maxRecDepth 100000 in
theorem rfresh_any (B : Nat → Nat) (Q : Nat → Prop) : ∀ (t : MT) (w : World), TrW w B Q t → t.er.size ≤ 100000 →
    Calls Try.prog 51 #[.pointer t.ad] w (Ret (fun v w' => OwN w.heap.size w' v (t.fr B)) w) := by
  intro t
  induction t with
  | nil =>
    intro w h hs
    have HZ := Lib.hid (show OwN w.heap.size w (.slice none 0 0) (MT.nil.fr B) from World.ownsRow_nil _ _ _ _)
    clear h
    show Calls Try.prog 51 #[.pointer none] w _
    go_enter Try.func51, Try.ntmps51
    go_wp2
    go_returns
    exact ⟨_, rfl, HZ.out, Below.refl _ _⟩
  | node g k v l r ihl ihr =>
    intro w h hs
    have HH := Lib.hid h
    have hs' : l.er.size + r.er.size + 1 ≤ 100000 := hs
    have kc := fun w' (hh : Ext w w') => (HH.out.1.below hh).cells
    simp only [cellsAre, Nat.zero_add, Nat.reduceAdd, and_true] at kc
    have c0 := kc w (Ext.refl _)
    have HIL := Lib.hid ihl
    have HIR := Lib.hid ihr
    have hfl := l.fr_len B
    have hfr := r.fr_len B
    rw [MT.ad_node]
    clear h ihl ihr
    obtain ⟨b, hb⟩ : ∃ b, B g = b := ⟨_, rfl⟩
    rw [hb] at c0 kc
    have HBG := Lib.hid hb
    clear hb
    by_cases h0 : 0 < b
    · have pb : (0 : Int) < (b : Int) := by omega
      have HZ := Lib.hid (show OwN w.heap.size w (.slice none 0 0) ((MT.node g k v l r).fr B) by
        simp only [MT.fr]
        rw [HBG.out, if_pos h0]
        exact World.ownsRow_nil _ _ _ _)
      go_enter Try.func51, Try.ntmps51
      go_wp2
      go_returns
      exact ⟨_, rfl, HZ.out, Below.refl _ _⟩
    · have pb : ¬ (0 : Int) < (b : Int) := by omega
      have HFR := Lib.hid (show (MT.node g k v l r).fr B = l.fr B ++ r.fr B ++ [g] by simp only [MT.fr]; rw [HBG.out, if_neg h0])
      have hst0 : Ext w w.drew := Ext.drew _
      go_enter Try.func51, Try.ntmps51
      go_upto_region 3 with fail
      refine wp_region_brn (S := Ext w) (by kernel_rfl) (by kernel_rfl) (fun _ _ _ _ _ => ⟨fun h => h, fun h => h⟩) ?_
      intro hsel_ hQ_
      obtain ⟨wd, hwd⟩ : ∃ wd, w.drew = wd := ⟨_, rfl⟩
      rw [hwd] at hst0 ⊢
      have hBd : w.heap.size ≤ wd.heap.size := Ext.size hst0
      refine wpB_chunk (f := 6) (L' := #[true, true, true, true, false, true, true, true, true, false, false, true, false, false, false]) hsel_ hQ_ [(0, true, some 12, none), (1, true, some 13, none), (2, true, some 14, none), (3, true, some 15, none), (5, true, some 17, none), (6, true, some 18, none), (7, true, some 19, none), (8, true, some 20, none), (11, true, some 23, none)] _ _ _ (by kernel_rfl) hst0 ?_
      repeat (first | (refine wpSeqB_pure (v := ?_) rfl ?_ ?_; rotate_left 1; (focus (intro wq_ hSq_; (try dsimp only at hSq_); go_simp; (try with_reducible rfl); done)); (try simp only [Act.put, List.setIfInBounds_toArray, List.set_cons_zero, List.set_cons_succ])) | (refine wpSeqB_pureG (v := ?_) rfl rfl ?_ ?_; rotate_left 1; (focus (intro wq_ hSq_; (try dsimp only at hSq_); go_simp; (try with_reducible rfl); done)); (try simp only [Act.put, List.setIfInBounds_toArray, List.set_cons_zero, List.set_cons_succ])) | (refine wpSeqB_off rfl rfl ?_; (try simp only [Act.put, List.setIfInBounds_toArray, List.set_cons_zero, List.set_cons_succ])) | (refine wpSeqB_offU rfl ?_; (try simp only [Act.put, List.setIfInBounds_toArray, List.set_cons_zero, List.set_cons_succ])))
      intro s0
      clear s0 hwd
      refine wpB_two 4 12 (by kernel_rfl) rfl rfl rfl rfl ?_ ?_
      · intro K hK
        go_simp
        refine (HIL.out wd (HH.out.2.2.1.below hst0) (by omega)).mono ?_
        rintro e y1 ⟨z1, rfl, x1, bb1⟩
        have s1 : Ext w y1 := bt hst0 bb1
        have o1 : OwN w.heap.size y1 z1 (l.fr B) := own_lower x1 hBd
        (try go_wp2_with fail)
        refine hK.out _ _ s1 ?_
        clear hK K x1 bb1
        (try simp only [List.getElem_toArray, List.getElem_cons_succ, List.getElem_cons_zero, Act.put, List.setIfInBounds_toArray, List.set_cons_zero, List.set_cons_succ])
        refine wpB_two 9 12 (by kernel_rfl) rfl rfl rfl rfl ?_ ?_
        · intro K hK
          go_simp
          refine (HIR.out y1 (HH.out.2.2.2.below s1) (by omega)).mono ?_
          rintro e y2 ⟨z2, rfl, x2, bb2⟩
          have s2 : Ext w y2 := bt s1 bb2
          have o2 : OwN w.heap.size y2 z1 (l.fr B) := own_below o1 bb2
          obtain ⟨A2, c2, hz2, r2⟩ := own_rv x2
          subst hz2
          (try go_wp2_with fail)
          refine hK.out _ _ s2 ?_
          clear hK K x2 bb2 o1
          (try simp only [List.getElem_toArray, List.getElem_cons_succ, List.getElem_cons_zero, Act.put, List.setIfInBounds_toArray, List.set_cons_zero, List.set_cons_succ])
          refine wpB_two 10 12 (by kernel_rfl) rfl rfl rfl rfl ?_ ?_
          · intro K hK
            refine wp_appN _ _ (by rfl) w.heap.size z1 (l.fr B) (by rfl) o2 A2 (r.fr B).length c2 (r.fr B) (by rfl) r2 (by omega) (by omega) (Ext.size s2) ?_
            intro A3 n3 c3 y3 o3 r3 b3 g3
            have s3 : Ext w y3 := Below.trans s2 b3
            refine hK.out _ _ s3 ?_
            clear hK K b3 g3
            (try simp only [List.getElem_toArray, List.getElem_cons_succ, List.getElem_cons_zero, Act.put, List.setIfInBounds_toArray, List.set_cons_zero, List.set_cons_succ])
            refine wpB_chunk (f := 0) (L' := #[true, true, true, true, true, true, true, true, true, true, true, true, true, true, true]) hsel_ hQ_ [(12, false, some 24, none), (13, false, some 25, none), (14, false, some 2, none)] _ _ _ (by kernel_rfl) s3 ?_
            repeat (first | (refine wpSeqB_pure (v := ?_) rfl ?_ ?_; rotate_left 1; (focus (intro wq_ hSq_; (try dsimp only at hSq_); go_simp; (try with_reducible rfl); done)); (try simp only [Act.put, List.setIfInBounds_toArray, List.set_cons_zero, List.set_cons_succ])) | (refine wpSeqB_pureG (v := ?_) rfl rfl ?_ ?_; rotate_left 1; (focus (intro wq_ hSq_; (try dsimp only at hSq_); go_simp; (try with_reducible rfl); done)); (try simp only [Act.put, List.setIfInBounds_toArray, List.set_cons_zero, List.set_cons_succ])) | (refine wpSeqB_off rfl rfl ?_; (try simp only [Act.put, List.setIfInBounds_toArray, List.set_cons_zero, List.set_cons_succ])) | (refine wpSeqB_offU rfl ?_; (try simp only [Act.put, List.setIfInBounds_toArray, List.set_cons_zero, List.set_cons_succ])))
            first | refine wpSeqB_call rfl (fun K hK => ?_) | refine wpSeqB_callG rfl rfl (fun K hK => ?_)
            go_simp
            have s4 := bt s3 (Ext.allocR y3 (.cells #[.pointer (some ⟨g, 0, none⟩)] TNP))
            refine hK.out _ _ s4 ?_
            clear hK K
            (try simp only [List.getElem_toArray, List.getElem_cons_succ, List.getElem_cons_zero, Act.put, List.setIfInBounds_toArray, List.set_cons_zero, List.set_cons_succ])
            have o4 := own_below o3 (Ext.allocR y3 (.cells #[.pointer (some ⟨g, 0, none⟩)] TNP))
            have r4 := rv_lit (w := y3) TNP 1 #[.pointer (some ⟨g, 0, none⟩)] 1 (by omega) rfl
            first | refine wpSeqB_call rfl (fun K hK => ?_) | refine wpSeqB_callG rfl rfl (fun K hK => ?_)
            refine wp_appN _ _ (by rfl) w.heap.size (.slice A3 n3 c3) (l.fr B ++ r.fr B) (by rfl) o4 (some ⟨y3.heap.size, 0, none⟩) 1 1 [g] (by rfl) r4 (by rw [List.length_append]; omega) (by omega) (Ext.size s4) ?_
            intro A5 n5 c5 y5 o5 r5 b5 g5
            have s5 : Ext w y5 := Below.trans s4 b5
            have HO := Lib.hid (show OwN w.heap.size y5 (.slice A5 n5 c5) ((MT.node g k v l r).fr B) by rw [HFR.out]; exact o5)
            have HX := Lib.hid s5
            refine hK.out _ _ s5 ?_
            clear hK K
            (try simp only [List.getElem_toArray, List.getElem_cons_succ, List.getElem_cons_zero, Act.put, List.setIfInBounds_toArray, List.set_cons_zero, List.set_cons_succ])
            repeat (first | (refine wpSeqB_pure (v := ?_) rfl ?_ ?_; rotate_left 1; (focus (intro wq_ hSq_; (try dsimp only at hSq_); go_simp; (try with_reducible rfl); done)); (try simp only [Act.put, List.setIfInBounds_toArray, List.set_cons_zero, List.set_cons_succ])) | (refine wpSeqB_pureG (v := ?_) rfl rfl ?_ ?_; rotate_left 1; (focus (intro wq_ hSq_; (try dsimp only at hSq_); go_simp; (try with_reducible rfl); done)); (try simp only [Act.put, List.setIfInBounds_toArray, List.set_cons_zero, List.set_cons_succ])) | (refine wpSeqB_off rfl rfl ?_; (try simp only [Act.put, List.setIfInBounds_toArray, List.set_cons_zero, List.set_cons_succ])) | (refine wpSeqB_offU rfl ?_; (try simp only [Act.put, List.setIfInBounds_toArray, List.set_cons_zero, List.set_cons_succ])))
            first | refine wpSeqB_call rfl (fun K hK => ?_) | refine wpSeqB_callG rfl rfl (fun K hK => ?_)
            go_simp
            refine hK.out _ _ s5 ?_
            clear hK K
            (try simp only [List.getElem_toArray, List.getElem_cons_succ, List.getElem_cons_zero, Act.put, List.setIfInBounds_toArray, List.set_cons_zero, List.set_cons_succ])
            repeat (first | (refine wpSeqB_pure (v := ?_) rfl ?_ ?_; rotate_left 1; (focus (intro wq_ hSq_; (try dsimp only at hSq_); go_simp; (try with_reducible rfl); done)); (try simp only [Act.put, List.setIfInBounds_toArray, List.set_cons_zero, List.set_cons_succ])) | (refine wpSeqB_pureG (v := ?_) rfl rfl ?_ ?_; rotate_left 1; (focus (intro wq_ hSq_; (try dsimp only at hSq_); go_simp; (try with_reducible rfl); done)); (try simp only [Act.put, List.setIfInBounds_toArray, List.set_cons_zero, List.set_cons_succ])) | (refine wpSeqB_off rfl rfl ?_; (try simp only [Act.put, List.setIfInBounds_toArray, List.set_cons_zero, List.set_cons_succ])) | (refine wpSeqB_offU rfl ?_; (try simp only [Act.put, List.setIfInBounds_toArray, List.set_cons_zero, List.set_cons_succ])))
            intro s_
            refine wpB_end (by kernel_rfl) ?_
            go_wp2_with fail
            go_returns
            exact ⟨_, rfl, HO.out, HX.out⟩
          · intro K hK
            go_simp
            have s3 := bt s2 (Ext.allocR y2 (.cells #[.pointer (some ⟨g, 0, none⟩)] TNP))
            refine hK.out _ _ s3 ?_
            clear hK K
            (try simp only [List.getElem_toArray, List.getElem_cons_succ, List.getElem_cons_zero, Act.put, List.setIfInBounds_toArray, List.set_cons_zero, List.set_cons_succ])
            have o3' := own_below o2 (Ext.allocR y2 (.cells #[.pointer (some ⟨g, 0, none⟩)] TNP))
            have r2' := r2.below (Ext.allocR y2 (.cells #[.pointer (some ⟨g, 0, none⟩)] TNP))
            have x4 := own_lit (base := w.heap.size) (w := y2) TNP 1 #[.pointer (some ⟨g, 0, none⟩)] 1 (Ext.size s2) (by omega) rfl
            refine wpB_chunk (f := 0) (L' := #[true, true, true, true, true, true, true, true, true, true, true, true, true, true, true]) hsel_ hQ_ [(10, false, some 22, none), (13, false, some 25, none), (14, false, some 2, none)] _ _ _ (by kernel_rfl) s3 ?_
            repeat (first | (refine wpSeqB_pure (v := ?_) rfl ?_ ?_; rotate_left 1; (focus (intro wq_ hSq_; (try dsimp only at hSq_); go_simp; (try with_reducible rfl); done)); (try simp only [Act.put, List.setIfInBounds_toArray, List.set_cons_zero, List.set_cons_succ])) | (refine wpSeqB_pureG (v := ?_) rfl rfl ?_ ?_; rotate_left 1; (focus (intro wq_ hSq_; (try dsimp only at hSq_); go_simp; (try with_reducible rfl); done)); (try simp only [Act.put, List.setIfInBounds_toArray, List.set_cons_zero, List.set_cons_succ])) | (refine wpSeqB_off rfl rfl ?_; (try simp only [Act.put, List.setIfInBounds_toArray, List.set_cons_zero, List.set_cons_succ])) | (refine wpSeqB_offU rfl ?_; (try simp only [Act.put, List.setIfInBounds_toArray, List.set_cons_zero, List.set_cons_succ])))
            have hne : ∀ gg, z1.ownBlock = some gg → gg ≠ y2.heap.size := fun gg e => Nat.ne_of_lt (own_lt o2 gg e)
            first | refine wpSeqB_call rfl (fun K hK => ?_) | refine wpSeqB_callG rfl rfl (fun K hK => ?_)
            refine wp_appN _ _ (by rfl) w.heap.size z1 (l.fr B) (by rfl) o3' A2 (r.fr B).length c2 (r.fr B) (by rfl) r2' (by omega) (by omega) (Ext.size s3) ?_
            intro A3 n3 c3 y3 o4 r3 b3 g3
            have s4 : Ext w y3 := Below.trans s3 b3
            have x5 : y3.ownsRow w.heap.size TNP 1 (.slice (some ⟨y2.heap.size, 0, none⟩) 1 1) 1 [.pointer (some ⟨g, 0, none⟩)] := x4.kept g3 (Or.inr fun e => hne _ e.symm rfl)
            obtain ⟨A9, c9, he9, r4⟩ := own_rv x5
            injection he9 with f1 _ f3
            subst f1 f3
            refine hK.out _ _ s4 ?_
            clear hK K b3 g3
            (try simp only [List.getElem_toArray, List.getElem_cons_succ, List.getElem_cons_zero, Act.put, List.setIfInBounds_toArray, List.set_cons_zero, List.set_cons_succ])
            first | refine wpSeqB_call rfl (fun K hK => ?_) | refine wpSeqB_callG rfl rfl (fun K hK => ?_)
            refine wp_appN _ _ (by rfl) w.heap.size (.slice A3 n3 c3) (l.fr B ++ r.fr B) (by rfl) o4 (some ⟨y2.heap.size, 0, none⟩) 1 1 [g] (by rfl) r4 (by rw [List.length_append]; omega) (by omega) (Ext.size s4) ?_
            intro A5 n5 c5 y5 o5 r5 b5 g5
            have s5 : Ext w y5 := Below.trans s4 b5
            have HO := Lib.hid (show OwN w.heap.size y5 (.slice A5 n5 c5) ((MT.node g k v l r).fr B) by rw [HFR.out]; exact o5)
            have HX := Lib.hid s5
            refine hK.out _ _ s5 ?_
            clear hK K
            (try simp only [List.getElem_toArray, List.getElem_cons_succ, List.getElem_cons_zero, Act.put, List.setIfInBounds_toArray, List.set_cons_zero, List.set_cons_succ])
            repeat (first | (refine wpSeqB_pure (v := ?_) rfl ?_ ?_; rotate_left 1; (focus (intro wq_ hSq_; (try dsimp only at hSq_); go_simp; (try with_reducible rfl); done)); (try simp only [Act.put, List.setIfInBounds_toArray, List.set_cons_zero, List.set_cons_succ])) | (refine wpSeqB_pureG (v := ?_) rfl rfl ?_ ?_; rotate_left 1; (focus (intro wq_ hSq_; (try dsimp only at hSq_); go_simp; (try with_reducible rfl); done)); (try simp only [Act.put, List.setIfInBounds_toArray, List.set_cons_zero, List.set_cons_succ])) | (refine wpSeqB_off rfl rfl ?_; (try simp only [Act.put, List.setIfInBounds_toArray, List.set_cons_zero, List.set_cons_succ])) | (refine wpSeqB_offU rfl ?_; (try simp only [Act.put, List.setIfInBounds_toArray, List.set_cons_zero, List.set_cons_succ])))
            first | refine wpSeqB_call rfl (fun K hK => ?_) | refine wpSeqB_callG rfl rfl (fun K hK => ?_)
            go_simp
            refine hK.out _ _ s5 ?_
            clear hK K
            (try simp only [List.getElem_toArray, List.getElem_cons_succ, List.getElem_cons_zero, Act.put, List.setIfInBounds_toArray, List.set_cons_zero, List.set_cons_succ])
            repeat (first | (refine wpSeqB_pure (v := ?_) rfl ?_ ?_; rotate_left 1; (focus (intro wq_ hSq_; (try dsimp only at hSq_); go_simp; (try with_reducible rfl); done)); (try simp only [Act.put, List.setIfInBounds_toArray, List.set_cons_zero, List.set_cons_succ])) | (refine wpSeqB_pureG (v := ?_) rfl rfl ?_ ?_; rotate_left 1; (focus (intro wq_ hSq_; (try dsimp only at hSq_); go_simp; (try with_reducible rfl); done)); (try simp only [Act.put, List.setIfInBounds_toArray, List.set_cons_zero, List.set_cons_succ])) | (refine wpSeqB_off rfl rfl ?_; (try simp only [Act.put, List.setIfInBounds_toArray, List.set_cons_zero, List.set_cons_succ])) | (refine wpSeqB_offU rfl ?_; (try simp only [Act.put, List.setIfInBounds_toArray, List.set_cons_zero, List.set_cons_succ])))
            intro s_
            refine wpB_end (by kernel_rfl) ?_
            go_wp2_with fail
            go_returns
            exact ⟨_, rfl, HO.out, HX.out⟩
        · intro K hK
          go_simp
          have s2 := bt s1 (Ext.allocR y1 (.cells #[.pointer (some ⟨g, 0, none⟩)] TNP))
          refine hK.out _ _ s2 ?_
          clear hK K
          (try simp only [List.getElem_toArray, List.getElem_cons_succ, List.getElem_cons_zero, Act.put, List.setIfInBounds_toArray, List.set_cons_zero, List.set_cons_succ])
          have hne1 : ∀ gg, z1.ownBlock = some gg → gg ≠ y1.heap.size := fun gg e => Nat.ne_of_lt (own_lt o1 gg e)
          have o2 := own_below o1 (Ext.allocR y1 (.cells #[.pointer (some ⟨g, 0, none⟩)] TNP))
          have x3 := own_lit (base := w.heap.size) (w := y1) TNP 1 #[.pointer (some ⟨g, 0, none⟩)] 1 (Ext.size s1) (by omega) rfl
          refine wpB_chunk (f := 0) (L' := #[true, true, true, true, true, true, true, true, true, true, true, true, true, true, true]) hsel_ hQ_ [(9, false, some 21, none), (10, false, some 22, none), (13, false, some 25, none), (14, false, some 2, none)] _ _ _ (by kernel_rfl) s2 ?_
          repeat (first | (refine wpSeqB_pure (v := ?_) rfl ?_ ?_; rotate_left 1; (focus (intro wq_ hSq_; (try dsimp only at hSq_); go_simp; (try with_reducible rfl); done)); (try simp only [Act.put, List.setIfInBounds_toArray, List.set_cons_zero, List.set_cons_succ])) | (refine wpSeqB_pureG (v := ?_) rfl rfl ?_ ?_; rotate_left 1; (focus (intro wq_ hSq_; (try dsimp only at hSq_); go_simp; (try with_reducible rfl); done)); (try simp only [Act.put, List.setIfInBounds_toArray, List.set_cons_zero, List.set_cons_succ])) | (refine wpSeqB_off rfl rfl ?_; (try simp only [Act.put, List.setIfInBounds_toArray, List.set_cons_zero, List.set_cons_succ])) | (refine wpSeqB_offU rfl ?_; (try simp only [Act.put, List.setIfInBounds_toArray, List.set_cons_zero, List.set_cons_succ])))
          first | refine wpSeqB_call rfl (fun K hK => ?_) | refine wpSeqB_callG rfl rfl (fun K hK => ?_)
          go_simp
          refine (HIR.out _ (HH.out.2.2.2.below s2) (by omega)).mono ?_
          rintro e y2 ⟨z2, rfl, x2, bb2⟩
          have s3 : Ext w y2 := bt s2 bb2
          have o3' : OwN w.heap.size y2 z1 (l.fr B) := own_below o2 bb2
          have x4 := own_below x3 bb2
          obtain ⟨A2, c2, hz2, r2'⟩ := own_rv x2
          subst hz2
          (try go_wp2_with fail)
          refine hK.out _ _ s3 ?_
          clear hK K x2 bb2 o1 o2 x3
          (try simp only [List.getElem_toArray, List.getElem_cons_succ, List.getElem_cons_zero, Act.put, List.setIfInBounds_toArray, List.set_cons_zero, List.set_cons_succ])
          have hne : ∀ gg, z1.ownBlock = some gg → gg ≠ y1.heap.size := hne1
          first | refine wpSeqB_call rfl (fun K hK => ?_) | refine wpSeqB_callG rfl rfl (fun K hK => ?_)
          refine wp_appN _ _ (by rfl) w.heap.size z1 (l.fr B) (by rfl) o3' A2 (r.fr B).length c2 (r.fr B) (by rfl) r2' (by omega) (by omega) (Ext.size s3) ?_
          intro A3 n3 c3 y3 o4 r3 b3 g3
          have s4 : Ext w y3 := Below.trans s3 b3
          have x5 : y3.ownsRow w.heap.size TNP 1 (.slice (some ⟨y1.heap.size, 0, none⟩) 1 1) 1 [.pointer (some ⟨g, 0, none⟩)] := x4.kept g3 (Or.inr fun e => hne _ e.symm rfl)
          obtain ⟨A9, c9, he9, r4⟩ := own_rv x5
          injection he9 with f1 _ f3
          subst f1 f3
          refine hK.out _ _ s4 ?_
          clear hK K b3 g3
          (try simp only [List.getElem_toArray, List.getElem_cons_succ, List.getElem_cons_zero, Act.put, List.setIfInBounds_toArray, List.set_cons_zero, List.set_cons_succ])
          first | refine wpSeqB_call rfl (fun K hK => ?_) | refine wpSeqB_callG rfl rfl (fun K hK => ?_)
          refine wp_appN _ _ (by rfl) w.heap.size (.slice A3 n3 c3) (l.fr B ++ r.fr B) (by rfl) o4 (some ⟨y1.heap.size, 0, none⟩) 1 1 [g] (by rfl) r4 (by rw [List.length_append]; omega) (by omega) (Ext.size s4) ?_
          intro A5 n5 c5 y5 o5 r5 b5 g5
          have s5 : Ext w y5 := Below.trans s4 b5
          have HO := Lib.hid (show OwN w.heap.size y5 (.slice A5 n5 c5) ((MT.node g k v l r).fr B) by rw [HFR.out]; exact o5)
          have HX := Lib.hid s5
          refine hK.out _ _ s5 ?_
          clear hK K
          (try simp only [List.getElem_toArray, List.getElem_cons_succ, List.getElem_cons_zero, Act.put, List.setIfInBounds_toArray, List.set_cons_zero, List.set_cons_succ])
          repeat (first | (refine wpSeqB_pure (v := ?_) rfl ?_ ?_; rotate_left 1; (focus (intro wq_ hSq_; (try dsimp only at hSq_); go_simp; (try with_reducible rfl); done)); (try simp only [Act.put, List.setIfInBounds_toArray, List.set_cons_zero, List.set_cons_succ])) | (refine wpSeqB_pureG (v := ?_) rfl rfl ?_ ?_; rotate_left 1; (focus (intro wq_ hSq_; (try dsimp only at hSq_); go_simp; (try with_reducible rfl); done)); (try simp only [Act.put, List.setIfInBounds_toArray, List.set_cons_zero, List.set_cons_succ])) | (refine wpSeqB_off rfl rfl ?_; (try simp only [Act.put, List.setIfInBounds_toArray, List.set_cons_zero, List.set_cons_succ])) | (refine wpSeqB_offU rfl ?_; (try simp only [Act.put, List.setIfInBounds_toArray, List.set_cons_zero, List.set_cons_succ])))
          first | refine wpSeqB_call rfl (fun K hK => ?_) | refine wpSeqB_callG rfl rfl (fun K hK => ?_)
          go_simp
          refine hK.out _ _ s5 ?_
          clear hK K
          (try simp only [List.getElem_toArray, List.getElem_cons_succ, List.getElem_cons_zero, Act.put, List.setIfInBounds_toArray, List.set_cons_zero, List.set_cons_succ])
          repeat (first | (refine wpSeqB_pure (v := ?_) rfl ?_ ?_; rotate_left 1; (focus (intro wq_ hSq_; (try dsimp only at hSq_); go_simp; (try with_reducible rfl); done)); (try simp only [Act.put, List.setIfInBounds_toArray, List.set_cons_zero, List.set_cons_succ])) | (refine wpSeqB_pureG (v := ?_) rfl rfl ?_ ?_; rotate_left 1; (focus (intro wq_ hSq_; (try dsimp only at hSq_); go_simp; (try with_reducible rfl); done)); (try simp only [Act.put, List.setIfInBounds_toArray, List.set_cons_zero, List.set_cons_succ])) | (refine wpSeqB_off rfl rfl ?_; (try simp only [Act.put, List.setIfInBounds_toArray, List.set_cons_zero, List.set_cons_succ])) | (refine wpSeqB_offU rfl ?_; (try simp only [Act.put, List.setIfInBounds_toArray, List.set_cons_zero, List.set_cons_succ])))
          intro s_
          refine wpB_end (by kernel_rfl) ?_
          go_wp2_with fail
          go_returns
          exact ⟨_, rfl, HO.out, HX.out⟩
      · intro K hK
        go_simp
        have s1 := bt hst0 (Ext.allocR wd (.cells #[.pointer (some ⟨g, 0, none⟩)] TNP))
        refine hK.out _ _ s1 ?_
        clear hK K
        (try simp only [List.getElem_toArray, List.getElem_cons_succ, List.getElem_cons_zero, Act.put, List.setIfInBounds_toArray, List.set_cons_zero, List.set_cons_succ])
        have x1 := own_lit (base := w.heap.size) (w := wd) TNP 1 #[.pointer (some ⟨g, 0, none⟩)] 1 hBd (by omega) rfl
        refine wpB_chunk (f := 0) (L' := #[true, true, true, true, true, true, true, true, true, true, true, true, true, true, true]) hsel_ hQ_ [(4, false, some 16, none), (9, false, some 21, none), (10, false, some 22, none), (13, false, some 25, none), (14, false, some 2, none)] _ _ _ (by kernel_rfl) s1 ?_
        repeat (first | (refine wpSeqB_pure (v := ?_) rfl ?_ ?_; rotate_left 1; (focus (intro wq_ hSq_; (try dsimp only at hSq_); go_simp; (try with_reducible rfl); done)); (try simp only [Act.put, List.setIfInBounds_toArray, List.set_cons_zero, List.set_cons_succ])) | (refine wpSeqB_pureG (v := ?_) rfl rfl ?_ ?_; rotate_left 1; (focus (intro wq_ hSq_; (try dsimp only at hSq_); go_simp; (try with_reducible rfl); done)); (try simp only [Act.put, List.setIfInBounds_toArray, List.set_cons_zero, List.set_cons_succ])) | (refine wpSeqB_off rfl rfl ?_; (try simp only [Act.put, List.setIfInBounds_toArray, List.set_cons_zero, List.set_cons_succ])) | (refine wpSeqB_offU rfl ?_; (try simp only [Act.put, List.setIfInBounds_toArray, List.set_cons_zero, List.set_cons_succ])))
        first | refine wpSeqB_call rfl (fun K hK => ?_) | refine wpSeqB_callG rfl rfl (fun K hK => ?_)
        go_simp
        refine (HIL.out _ (HH.out.2.2.1.below s1) (by omega)).mono ?_
        rintro e y1 ⟨z1, rfl, x2, bb1⟩
        have s2 : Ext w y1 := bt s1 bb1
        have o1 : OwN w.heap.size y1 z1 (l.fr B) := own_lower x2 (Ext.size s1)
        have hne : ∀ gg, z1.ownBlock = some gg → gg ≠ wd.heap.size := fun gg e => by have := own_geE x2 gg e; simp at this; omega
        have x3 := own_below x1 bb1
        (try go_wp2_with fail)
        refine hK.out _ _ s2 ?_
        clear hK K x2 bb1 x1
        (try simp only [List.getElem_toArray, List.getElem_cons_succ, List.getElem_cons_zero, Act.put, List.setIfInBounds_toArray, List.set_cons_zero, List.set_cons_succ])
        first | refine wpSeqB_call rfl (fun K hK => ?_) | refine wpSeqB_callG rfl rfl (fun K hK => ?_)
        go_simp
        refine (HIR.out y1 (HH.out.2.2.2.below s2) (by omega)).mono ?_
        rintro e y2 ⟨z2, rfl, x2, bb2⟩
        have s3 : Ext w y2 := bt s2 bb2
        have o3' : OwN w.heap.size y2 z1 (l.fr B) := own_below o1 bb2
        have x4 := own_below x3 bb2
        obtain ⟨A2, c2, hz2, r2'⟩ := own_rv x2
        subst hz2
        (try go_wp2_with fail)
        refine hK.out _ _ s3 ?_
        clear hK K x2 bb2 o1 x3
        (try simp only [List.getElem_toArray, List.getElem_cons_succ, List.getElem_cons_zero, Act.put, List.setIfInBounds_toArray, List.set_cons_zero, List.set_cons_succ])
        first | refine wpSeqB_call rfl (fun K hK => ?_) | refine wpSeqB_callG rfl rfl (fun K hK => ?_)
        refine wp_appN _ _ (by rfl) w.heap.size z1 (l.fr B) (by rfl) o3' A2 (r.fr B).length c2 (r.fr B) (by rfl) r2' (by omega) (by omega) (Ext.size s3) ?_
        intro A3 n3 c3 y3 o4 r3 b3 g3
        have s4 : Ext w y3 := Below.trans s3 b3
        have x5 : y3.ownsRow w.heap.size TNP 1 (.slice (some ⟨wd.heap.size, 0, none⟩) 1 1) 1 [.pointer (some ⟨g, 0, none⟩)] := x4.kept g3 (Or.inr fun e => hne _ e.symm rfl)
        obtain ⟨A9, c9, he9, r4⟩ := own_rv x5
        injection he9 with f1 _ f3
        subst f1 f3
        refine hK.out _ _ s4 ?_
        clear hK K b3 g3
        (try simp only [List.getElem_toArray, List.getElem_cons_succ, List.getElem_cons_zero, Act.put, List.setIfInBounds_toArray, List.set_cons_zero, List.set_cons_succ])
        first | refine wpSeqB_call rfl (fun K hK => ?_) | refine wpSeqB_callG rfl rfl (fun K hK => ?_)
        refine wp_appN _ _ (by rfl) w.heap.size (.slice A3 n3 c3) (l.fr B ++ r.fr B) (by rfl) o4 (some ⟨wd.heap.size, 0, none⟩) 1 1 [g] (by rfl) r4 (by rw [List.length_append]; omega) (by omega) (Ext.size s4) ?_
        intro A5 n5 c5 y5 o5 r5 b5 g5
        have s5 : Ext w y5 := Below.trans s4 b5
        have HO := Lib.hid (show OwN w.heap.size y5 (.slice A5 n5 c5) ((MT.node g k v l r).fr B) by rw [HFR.out]; exact o5)
        have HX := Lib.hid s5
        refine hK.out _ _ s5 ?_
        clear hK K
        (try simp only [List.getElem_toArray, List.getElem_cons_succ, List.getElem_cons_zero, Act.put, List.setIfInBounds_toArray, List.set_cons_zero, List.set_cons_succ])
        repeat (first | (refine wpSeqB_pure (v := ?_) rfl ?_ ?_; rotate_left 1; (focus (intro wq_ hSq_; (try dsimp only at hSq_); go_simp; (try with_reducible rfl); done)); (try simp only [Act.put, List.setIfInBounds_toArray, List.set_cons_zero, List.set_cons_succ])) | (refine wpSeqB_pureG (v := ?_) rfl rfl ?_ ?_; rotate_left 1; (focus (intro wq_ hSq_; (try dsimp only at hSq_); go_simp; (try with_reducible rfl); done)); (try simp only [Act.put, List.setIfInBounds_toArray, List.set_cons_zero, List.set_cons_succ])) | (refine wpSeqB_off rfl rfl ?_; (try simp only [Act.put, List.setIfInBounds_toArray, List.set_cons_zero, List.set_cons_succ])) | (refine wpSeqB_offU rfl ?_; (try simp only [Act.put, List.setIfInBounds_toArray, List.set_cons_zero, List.set_cons_succ])))
        first | refine wpSeqB_call rfl (fun K hK => ?_) | refine wpSeqB_callG rfl rfl (fun K hK => ?_)
        go_simp
        refine hK.out _ _ s5 ?_
        clear hK K
        (try simp only [List.getElem_toArray, List.getElem_cons_succ, List.getElem_cons_zero, Act.put, List.setIfInBounds_toArray, List.set_cons_zero, List.set_cons_succ])
        repeat (first | (refine wpSeqB_pure (v := ?_) rfl ?_ ?_; rotate_left 1; (focus (intro wq_ hSq_; (try dsimp only at hSq_); go_simp; (try with_reducible rfl); done)); (try simp only [Act.put, List.setIfInBounds_toArray, List.set_cons_zero, List.set_cons_succ])) | (refine wpSeqB_pureG (v := ?_) rfl rfl ?_ ?_; rotate_left 1; (focus (intro wq_ hSq_; (try dsimp only at hSq_); go_simp; (try with_reducible rfl); done)); (try simp only [Act.put, List.setIfInBounds_toArray, List.set_cons_zero, List.set_cons_succ])) | (refine wpSeqB_off rfl rfl ?_; (try simp only [Act.put, List.setIfInBounds_toArray, List.set_cons_zero, List.set_cons_succ])) | (refine wpSeqB_offU rfl ?_; (try simp only [Act.put, List.setIfInBounds_toArray, List.set_cons_zero, List.set_cons_succ])))
        intro s_
        refine wpB_end (by kernel_rfl) ?_
        go_wp2_with fail
        go_returns
        exact ⟨_, rfl, HO.out, HX.out⟩
end Go.Proofs.Tb
