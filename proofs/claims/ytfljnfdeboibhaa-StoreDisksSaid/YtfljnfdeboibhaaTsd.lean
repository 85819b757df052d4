/- Contract of fresh. (With what follows it, in one text.) -/
import Derived.Test.YtfljnfdeboibhaaTsb
import Derived.Test.YtfljnfdeboibhaaStl
import Derived.Test.YtfljnfdeboibhaaBrn
import Derived.Deep.CutBlock
import Derived.Test.YtfljnfdeboibhaaTsc
import Derived.Lib.LazyBuf
set_option linter.unusedVariables false
set_option linter.unusedSimpArgs false
/- Contract of fresh. -/
namespace Go.Proofs.Tb
open Go.RowKit
attribute [local go_sem] cell_set_same

abbrev TNS : TypeId := 107
theorem np_info : (Try.prog.info? TNP).map (fun i => (i.zero, i.size, i.bytes)) = some (some (.pointer none), 1, 8) := by kernel_rfl
/-- The nodes that stand on no block, those beneath ahead of those above. -/
def MT.fr (B : Nat → Nat) : MT → List Nat
  | .nil => []
  | .node g _ _ l r => if 0 < B g then [] else l.fr B ++ r.fr B ++ [g]
theorem MT.fr_len (B : Nat → Nat) : ∀ t : MT, (t.fr B).length ≤ t.er.size
  | .nil => Nat.le_refl _
  | .node g k v l r => by
    have h1 := l.fr_len B
    have h2 := r.fr_len B
    simp only [MT.fr, MT.er, Tr.size]
    split
    · simp
    · simp only [List.length_append, List.length_cons, List.length_nil]; omega
def ptrs (gs : List Nat) : List Value := gs.map fun g => .pointer (some ⟨g, 0, none⟩)
theorem ptrs_len (gs : List Nat) : (ptrs gs).length = gs.length := by simp [ptrs]
theorem ptrs_app (a b : List Nat) : ptrs (a ++ b) = ptrs a ++ ptrs b := List.map_append
theorem ptrs_one (gs : List Nat) : ∀ u ∈ ptrs gs, u.oneCell' = true := fun u hu => by
  obtain ⟨g, _, rfl⟩ := List.mem_map.1 hu
  rfl
/-- A row of pointers to nodes. -/
def OwN (base : Nat) (w : World) (v : Value) (gs : List Nat) : Prop := w.ownsRow base TNP 1 v gs.length (ptrs gs)
theorem wp_appN {o : Oper} {a : Act} {K : Act → World → Prop} {Q : Exit → Act → World → Prop} {w : World} (s x : Operand)
    (ho : o.op = .call { callee := .builtin .append, args := #[s, x], argTypes := #[TNS, TNS] }) (base : Nat) (v : Value) (gs : List Nat) (hs : a.eval s = v) (hown : OwN base w v gs)
    (A : Option Addr) (m c : Nat) (hs' : List Nat) (hx : a.eval x = .slice A m c) (hr : Rv w 1 A m c (ptrs hs')) (hn : gs.length ≤ 1000000) (hm : m ≤ 1000000) (hbase : base ≤ w.heap.size)
    (h : ∀ A' n' c' w', OwN base w' (.slice A' n' c') (gs ++ hs') → Rv w' 1 A' n' c' (ptrs (gs ++ hs')) → Below base w w' → w.grownBy w' v.ownBlock → K (a.put o.dst (.slice A' n' c')) w') : Oper.wp Try.prog o a w K Q := by
  have hml : hs'.length = m := by have := hr.len; rw [ptrs_len, Nat.mul_one] at this; exact this
  refine wp_appR TNS TNP _ 1 8 np_info Try.underlying107 rfl (by omega) (by omega) s x ho base v gs.length (ptrs gs) hs hown A m c (ptrs hs') hx hr (ptrs_one _) hn hm hbase ?_
  intro v3 w3 hrow hgr hbel
  have hO : OwN base w3 v3 (gs ++ hs') := by
    unfold OwN
    rw [List.length_append, hml, ptrs_app]
    exact hrow
  obtain ⟨A', c', e, hr'⟩ := own_rv hO
  subst e
  exact h _ _ _ _ hO hr' hbel hgr
set_option maxHeartbeats 6400000 in
set_option maxRecDepth 100000 in
theorem rfresh_any (B : Nat → Nat) (Q : Nat → Prop) : ∀ (t : MT) (w : World), TrW w B Q t → t.er.size ≤ 100000 →
    Calls Try.prog 51 #[.pointer t.ad] w (Ret (fun v w' => OwN w.heap.size w' v (t.fr B)) w) := by
  intro t
  induction t with
  | nil =>
    intro w h hs
    have HZ := Lib.hid (show OwN w.heap.size w (.slice none 0 0) (MT.nil.fr B) from World.ownsRow_nil _ _ _ _)
    clear h
    show Calls Try.prog 51 #[.pointer none] w _
    go_enter Try.func51, Try.ntmps51
    go_wp2
    go_returns
    exact ⟨_, rfl, HZ.out, Below.refl _ _⟩
  | node g k v l r ihl ihr =>
    intro w h hs
    have HH := Lib.hid h
    have hs' : l.er.size + r.er.size + 1 ≤ 100000 := hs
    have kc := fun w' (hh : Ext w w') => (HH.out.1.below hh).cells
    simp only [cellsAre, Nat.zero_add, Nat.reduceAdd, and_true] at kc
    have c0 := kc w (Ext.refl _)
    have HIL := Lib.hid ihl
    have HIR := Lib.hid ihr
    have hfl := l.fr_len B
    have hfr := r.fr_len B
    rw [MT.ad_node]
    clear h ihl ihr
    obtain ⟨b, hb⟩ : ∃ b, B g = b := ⟨_, rfl⟩
    rw [hb] at c0 kc
    have HBG := Lib.hid hb
    clear hb
    by_cases h0 : 0 < b
    · have pb : (0 : Int) < (b : Int) := by omega
      have HZ := Lib.hid (show OwN w.heap.size w (.slice none 0 0) ((MT.node g k v l r).fr B) by
        simp only [MT.fr]
        rw [HBG.out, if_pos h0]
        exact World.ownsRow_nil _ _ _ _)
      go_enter Try.func51, Try.ntmps51
      go_wp2
      go_returns
      exact ⟨_, rfl, HZ.out, Below.refl _ _⟩
    · have pb : ¬ (0 : Int) < (b : Int) := by omega
      have HFR := Lib.hid (show (MT.node g k v l r).fr B = l.fr B ++ r.fr B ++ [g] by simp only [MT.fr]; rw [HBG.out, if_neg h0])
      have hst0 : Ext w w.drew := Ext.drew _
      go_enter Try.func51, Try.ntmps51
      go_upto_region 3 with fail
      refine wp_region_brn (S := Ext w) (by kernel_rfl) (by kernel_rfl) (fun _ _ _ _ _ => ⟨fun h => h, fun h => h⟩) ?_
      intro hsel_ hQ_
      obtain ⟨wd, hwd⟩ : ∃ wd, w.drew = wd := ⟨_, rfl⟩
      rw [hwd] at hst0 ⊢
      have hBd : w.heap.size ≤ wd.heap.size := Ext.size hst0
      refine wpB_chunk (f := 6) (L' := #[true, true, true, true, false, true, true, true, true, false, false, true, false, false, false]) hsel_ hQ_ [(0, true, some 12, none), (1, true, some 13, none), (2, true, some 14, none), (3, true, some 15, none), (5, true, some 17, none), (6, true, some 18, none), (7, true, some 19, none), (8, true, some 20, none), (11, true, some 23, none)] _ _ _ (by kernel_rfl) hst0 ?_
      repeat (first | (refine wpSeqB_pure (v := ?_) rfl ?_ ?_; rotate_left 1; (focus (intro wq_ hSq_; (try dsimp only at hSq_); go_simp; (try with_reducible rfl); done)); (try simp only [Act.put, List.setIfInBounds_toArray, List.set_cons_zero, List.set_cons_succ])) | (refine wpSeqB_pureG (v := ?_) rfl rfl ?_ ?_; rotate_left 1; (focus (intro wq_ hSq_; (try dsimp only at hSq_); go_simp; (try with_reducible rfl); done)); (try simp only [Act.put, List.setIfInBounds_toArray, List.set_cons_zero, List.set_cons_succ])) | (refine wpSeqB_off rfl rfl ?_; (try simp only [Act.put, List.setIfInBounds_toArray, List.set_cons_zero, List.set_cons_succ])) | (refine wpSeqB_offU rfl ?_; (try simp only [Act.put, List.setIfInBounds_toArray, List.set_cons_zero, List.set_cons_succ])))
      intro s0
      clear s0 hwd
      refine wpB_two 4 12 (by kernel_rfl) rfl rfl rfl rfl ?_ ?_
      · intro K hK
        go_simp
        refine (HIL.out wd (HH.out.2.2.1.below hst0) (by omega)).mono ?_
        rintro e y1 ⟨z1, rfl, x1, bb1⟩
        have s1 : Ext w y1 := bt hst0 bb1
        have o1 : OwN w.heap.size y1 z1 (l.fr B) := own_lower x1 hBd
        (try go_wp2_with fail)
        refine hK.out _ _ s1 ?_
        clear hK K x1 bb1
        (try simp only [List.getElem_toArray, List.getElem_cons_succ, List.getElem_cons_zero, Act.put, List.setIfInBounds_toArray, List.set_cons_zero, List.set_cons_succ])
        refine wpB_two 9 12 (by kernel_rfl) rfl rfl rfl rfl ?_ ?_
        · intro K hK
          go_simp
          refine (HIR.out y1 (HH.out.2.2.2.below s1) (by omega)).mono ?_
          rintro e y2 ⟨z2, rfl, x2, bb2⟩
          have s2 : Ext w y2 := bt s1 bb2
          have o2 : OwN w.heap.size y2 z1 (l.fr B) := own_below o1 bb2
          obtain ⟨A2, c2, hz2, r2⟩ := own_rv x2
          subst hz2
          (try go_wp2_with fail)
          refine hK.out _ _ s2 ?_
          clear hK K x2 bb2 o1
          (try simp only [List.getElem_toArray, List.getElem_cons_succ, List.getElem_cons_zero, Act.put, List.setIfInBounds_toArray, List.set_cons_zero, List.set_cons_succ])
          refine wpB_two 10 12 (by kernel_rfl) rfl rfl rfl rfl ?_ ?_
          · intro K hK
            refine wp_appN _ _ (by rfl) w.heap.size z1 (l.fr B) (by rfl) o2 A2 (r.fr B).length c2 (r.fr B) (by rfl) r2 (by omega) (by omega) (Ext.size s2) ?_
            intro A3 n3 c3 y3 o3 r3 b3 g3
            have s3 : Ext w y3 := Below.trans s2 b3
            refine hK.out _ _ s3 ?_
            clear hK K b3 g3
            (try simp only [List.getElem_toArray, List.getElem_cons_succ, List.getElem_cons_zero, Act.put, List.setIfInBounds_toArray, List.set_cons_zero, List.set_cons_succ])
            refine wpB_chunk (f := 0) (L' := #[true, true, true, true, true, true, true, true, true, true, true, true, true, true, true]) hsel_ hQ_ [(12, false, some 24, none), (13, false, some 25, none), (14, false, some 2, none)] _ _ _ (by kernel_rfl) s3 ?_
            repeat (first | (refine wpSeqB_pure (v := ?_) rfl ?_ ?_; rotate_left 1; (focus (intro wq_ hSq_; (try dsimp only at hSq_); go_simp; (try with_reducible rfl); done)); (try simp only [Act.put, List.setIfInBounds_toArray, List.set_cons_zero, List.set_cons_succ])) | (refine wpSeqB_pureG (v := ?_) rfl rfl ?_ ?_; rotate_left 1; (focus (intro wq_ hSq_; (try dsimp only at hSq_); go_simp; (try with_reducible rfl); done)); (try simp only [Act.put, List.setIfInBounds_toArray, List.set_cons_zero, List.set_cons_succ])) | (refine wpSeqB_off rfl rfl ?_; (try simp only [Act.put, List.setIfInBounds_toArray, List.set_cons_zero, List.set_cons_succ])) | (refine wpSeqB_offU rfl ?_; (try simp only [Act.put, List.setIfInBounds_toArray, List.set_cons_zero, List.set_cons_succ])))
            first | refine wpSeqB_call rfl (fun K hK => ?_) | refine wpSeqB_callG rfl rfl (fun K hK => ?_)
            go_simp
            have s4 := bt s3 (Ext.allocR y3 (.cells #[.pointer (some ⟨g, 0, none⟩)] TNP))
            refine hK.out _ _ s4 ?_
            clear hK K
            (try simp only [List.getElem_toArray, List.getElem_cons_succ, List.getElem_cons_zero, Act.put, List.setIfInBounds_toArray, List.set_cons_zero, List.set_cons_succ])
            have o4 := own_below o3 (Ext.allocR y3 (.cells #[.pointer (some ⟨g, 0, none⟩)] TNP))
            have r4 := rv_lit (w := y3) TNP 1 #[.pointer (some ⟨g, 0, none⟩)] 1 (by omega) rfl
            first | refine wpSeqB_call rfl (fun K hK => ?_) | refine wpSeqB_callG rfl rfl (fun K hK => ?_)
            refine wp_appN _ _ (by rfl) w.heap.size (.slice A3 n3 c3) (l.fr B ++ r.fr B) (by rfl) o4 (some ⟨y3.heap.size, 0, none⟩) 1 1 [g] (by rfl) r4 (by rw [List.length_append]; omega) (by omega) (Ext.size s4) ?_
            intro A5 n5 c5 y5 o5 r5 b5 g5
            have s5 : Ext w y5 := Below.trans s4 b5
            have HO := Lib.hid (show OwN w.heap.size y5 (.slice A5 n5 c5) ((MT.node g k v l r).fr B) by rw [HFR.out]; exact o5)
            have HX := Lib.hid s5
            refine hK.out _ _ s5 ?_
            clear hK K
            (try simp only [List.getElem_toArray, List.getElem_cons_succ, List.getElem_cons_zero, Act.put, List.setIfInBounds_toArray, List.set_cons_zero, List.set_cons_succ])
            repeat (first | (refine wpSeqB_pure (v := ?_) rfl ?_ ?_; rotate_left 1; (focus (intro wq_ hSq_; (try dsimp only at hSq_); go_simp; (try with_reducible rfl); done)); (try simp only [Act.put, List.setIfInBounds_toArray, List.set_cons_zero, List.set_cons_succ])) | (refine wpSeqB_pureG (v := ?_) rfl rfl ?_ ?_; rotate_left 1; (focus (intro wq_ hSq_; (try dsimp only at hSq_); go_simp; (try with_reducible rfl); done)); (try simp only [Act.put, List.setIfInBounds_toArray, List.set_cons_zero, List.set_cons_succ])) | (refine wpSeqB_off rfl rfl ?_; (try simp only [Act.put, List.setIfInBounds_toArray, List.set_cons_zero, List.set_cons_succ])) | (refine wpSeqB_offU rfl ?_; (try simp only [Act.put, List.setIfInBounds_toArray, List.set_cons_zero, List.set_cons_succ])))
            first | refine wpSeqB_call rfl (fun K hK => ?_) | refine wpSeqB_callG rfl rfl (fun K hK => ?_)
            go_simp
            refine hK.out _ _ s5 ?_
            clear hK K
            (try simp only [List.getElem_toArray, List.getElem_cons_succ, List.getElem_cons_zero, Act.put, List.setIfInBounds_toArray, List.set_cons_zero, List.set_cons_succ])
            repeat (first | (refine wpSeqB_pure (v := ?_) rfl ?_ ?_; rotate_left 1; (focus (intro wq_ hSq_; (try dsimp only at hSq_); go_simp; (try with_reducible rfl); done)); (try simp only [Act.put, List.setIfInBounds_toArray, List.set_cons_zero, List.set_cons_succ])) | (refine wpSeqB_pureG (v := ?_) rfl rfl ?_ ?_; rotate_left 1; (focus (intro wq_ hSq_; (try dsimp only at hSq_); go_simp; (try with_reducible rfl); done)); (try simp only [Act.put, List.setIfInBounds_toArray, List.set_cons_zero, List.set_cons_succ])) | (refine wpSeqB_off rfl rfl ?_; (try simp only [Act.put, List.setIfInBounds_toArray, List.set_cons_zero, List.set_cons_succ])) | (refine wpSeqB_offU rfl ?_; (try simp only [Act.put, List.setIfInBounds_toArray, List.set_cons_zero, List.set_cons_succ])))
            intro s_
            refine wpB_end (by kernel_rfl) ?_
            go_wp2_with fail
            go_returns
            exact ⟨_, rfl, HO.out, HX.out⟩
          · intro K hK
            go_simp
            have s3 := bt s2 (Ext.allocR y2 (.cells #[.pointer (some ⟨g, 0, none⟩)] TNP))
            refine hK.out _ _ s3 ?_
            clear hK K
            (try simp only [List.getElem_toArray, List.getElem_cons_succ, List.getElem_cons_zero, Act.put, List.setIfInBounds_toArray, List.set_cons_zero, List.set_cons_succ])
            have o3' := own_below o2 (Ext.allocR y2 (.cells #[.pointer (some ⟨g, 0, none⟩)] TNP))
            have r2' := r2.below (Ext.allocR y2 (.cells #[.pointer (some ⟨g, 0, none⟩)] TNP))
            have x4 := own_lit (base := w.heap.size) (w := y2) TNP 1 #[.pointer (some ⟨g, 0, none⟩)] 1 (Ext.size s2) (by omega) rfl
            refine wpB_chunk (f := 0) (L' := #[true, true, true, true, true, true, true, true, true, true, true, true, true, true, true]) hsel_ hQ_ [(10, false, some 22, none), (13, false, some 25, none), (14, false, some 2, none)] _ _ _ (by kernel_rfl) s3 ?_
            repeat (first | (refine wpSeqB_pure (v := ?_) rfl ?_ ?_; rotate_left 1; (focus (intro wq_ hSq_; (try dsimp only at hSq_); go_simp; (try with_reducible rfl); done)); (try simp only [Act.put, List.setIfInBounds_toArray, List.set_cons_zero, List.set_cons_succ])) | (refine wpSeqB_pureG (v := ?_) rfl rfl ?_ ?_; rotate_left 1; (focus (intro wq_ hSq_; (try dsimp only at hSq_); go_simp; (try with_reducible rfl); done)); (try simp only [Act.put, List.setIfInBounds_toArray, List.set_cons_zero, List.set_cons_succ])) | (refine wpSeqB_off rfl rfl ?_; (try simp only [Act.put, List.setIfInBounds_toArray, List.set_cons_zero, List.set_cons_succ])) | (refine wpSeqB_offU rfl ?_; (try simp only [Act.put, List.setIfInBounds_toArray, List.set_cons_zero, List.set_cons_succ])))
            have hne : ∀ gg, z1.ownBlock = some gg → gg ≠ y2.heap.size := fun gg e => Nat.ne_of_lt (own_lt o2 gg e)
            first | refine wpSeqB_call rfl (fun K hK => ?_) | refine wpSeqB_callG rfl rfl (fun K hK => ?_)
            refine wp_appN _ _ (by rfl) w.heap.size z1 (l.fr B) (by rfl) o3' A2 (r.fr B).length c2 (r.fr B) (by rfl) r2' (by omega) (by omega) (Ext.size s3) ?_
            intro A3 n3 c3 y3 o4 r3 b3 g3
            have s4 : Ext w y3 := Below.trans s3 b3
            have x5 : y3.ownsRow w.heap.size TNP 1 (.slice (some ⟨y2.heap.size, 0, none⟩) 1 1) 1 [.pointer (some ⟨g, 0, none⟩)] := x4.kept g3 (Or.inr fun e => hne _ e.symm rfl)
            obtain ⟨A9, c9, he9, r4⟩ := own_rv x5
            injection he9 with f1 _ f3
            subst f1 f3
            refine hK.out _ _ s4 ?_
            clear hK K b3 g3
            (try simp only [List.getElem_toArray, List.getElem_cons_succ, List.getElem_cons_zero, Act.put, List.setIfInBounds_toArray, List.set_cons_zero, List.set_cons_succ])
            first | refine wpSeqB_call rfl (fun K hK => ?_) | refine wpSeqB_callG rfl rfl (fun K hK => ?_)
            refine wp_appN _ _ (by rfl) w.heap.size (.slice A3 n3 c3) (l.fr B ++ r.fr B) (by rfl) o4 (some ⟨y2.heap.size, 0, none⟩) 1 1 [g] (by rfl) r4 (by rw [List.length_append]; omega) (by omega) (Ext.size s4) ?_
            intro A5 n5 c5 y5 o5 r5 b5 g5
            have s5 : Ext w y5 := Below.trans s4 b5
            have HO := Lib.hid (show OwN w.heap.size y5 (.slice A5 n5 c5) ((MT.node g k v l r).fr B) by rw [HFR.out]; exact o5)
            have HX := Lib.hid s5
            refine hK.out _ _ s5 ?_
            clear hK K
            (try simp only [List.getElem_toArray, List.getElem_cons_succ, List.getElem_cons_zero, Act.put, List.setIfInBounds_toArray, List.set_cons_zero, List.set_cons_succ])
            repeat (first | (refine wpSeqB_pure (v := ?_) rfl ?_ ?_; rotate_left 1; (focus (intro wq_ hSq_; (try dsimp only at hSq_); go_simp; (try with_reducible rfl); done)); (try simp only [Act.put, List.setIfInBounds_toArray, List.set_cons_zero, List.set_cons_succ])) | (refine wpSeqB_pureG (v := ?_) rfl rfl ?_ ?_; rotate_left 1; (focus (intro wq_ hSq_; (try dsimp only at hSq_); go_simp; (try with_reducible rfl); done)); (try simp only [Act.put, List.setIfInBounds_toArray, List.set_cons_zero, List.set_cons_succ])) | (refine wpSeqB_off rfl rfl ?_; (try simp only [Act.put, List.setIfInBounds_toArray, List.set_cons_zero, List.set_cons_succ])) | (refine wpSeqB_offU rfl ?_; (try simp only [Act.put, List.setIfInBounds_toArray, List.set_cons_zero, List.set_cons_succ])))
            first | refine wpSeqB_call rfl (fun K hK => ?_) | refine wpSeqB_callG rfl rfl (fun K hK => ?_)
            go_simp
            refine hK.out _ _ s5 ?_
            clear hK K
            (try simp only [List.getElem_toArray, List.getElem_cons_succ, List.getElem_cons_zero, Act.put, List.setIfInBounds_toArray, List.set_cons_zero, List.set_cons_succ])
            repeat (first | (refine wpSeqB_pure (v := ?_) rfl ?_ ?_; rotate_left 1; (focus (intro wq_ hSq_; (try dsimp only at hSq_); go_simp; (try with_reducible rfl); done)); (try simp only [Act.put, List.setIfInBounds_toArray, List.set_cons_zero, List.set_cons_succ])) | (refine wpSeqB_pureG (v := ?_) rfl rfl ?_ ?_; rotate_left 1; (focus (intro wq_ hSq_; (try dsimp only at hSq_); go_simp; (try with_reducible rfl); done)); (try simp only [Act.put, List.setIfInBounds_toArray, List.set_cons_zero, List.set_cons_succ])) | (refine wpSeqB_off rfl rfl ?_; (try simp only [Act.put, List.setIfInBounds_toArray, List.set_cons_zero, List.set_cons_succ])) | (refine wpSeqB_offU rfl ?_; (try simp only [Act.put, List.setIfInBounds_toArray, List.set_cons_zero, List.set_cons_succ])))
            intro s_
            refine wpB_end (by kernel_rfl) ?_
            go_wp2_with fail
            go_returns
            exact ⟨_, rfl, HO.out, HX.out⟩
        · intro K hK
          go_simp
          have s2 := bt s1 (Ext.allocR y1 (.cells #[.pointer (some ⟨g, 0, none⟩)] TNP))
          refine hK.out _ _ s2 ?_
          clear hK K
          (try simp only [List.getElem_toArray, List.getElem_cons_succ, List.getElem_cons_zero, Act.put, List.setIfInBounds_toArray, List.set_cons_zero, List.set_cons_succ])
          have hne1 : ∀ gg, z1.ownBlock = some gg → gg ≠ y1.heap.size := fun gg e => Nat.ne_of_lt (own_lt o1 gg e)
          have o2 := own_below o1 (Ext.allocR y1 (.cells #[.pointer (some ⟨g, 0, none⟩)] TNP))
          have x3 := own_lit (base := w.heap.size) (w := y1) TNP 1 #[.pointer (some ⟨g, 0, none⟩)] 1 (Ext.size s1) (by omega) rfl
          refine wpB_chunk (f := 0) (L' := #[true, true, true, true, true, true, true, true, true, true, true, true, true, true, true]) hsel_ hQ_ [(9, false, some 21, none), (10, false, some 22, none), (13, false, some 25, none), (14, false, some 2, none)] _ _ _ (by kernel_rfl) s2 ?_
          repeat (first | (refine wpSeqB_pure (v := ?_) rfl ?_ ?_; rotate_left 1; (focus (intro wq_ hSq_; (try dsimp only at hSq_); go_simp; (try with_reducible rfl); done)); (try simp only [Act.put, List.setIfInBounds_toArray, List.set_cons_zero, List.set_cons_succ])) | (refine wpSeqB_pureG (v := ?_) rfl rfl ?_ ?_; rotate_left 1; (focus (intro wq_ hSq_; (try dsimp only at hSq_); go_simp; (try with_reducible rfl); done)); (try simp only [Act.put, List.setIfInBounds_toArray, List.set_cons_zero, List.set_cons_succ])) | (refine wpSeqB_off rfl rfl ?_; (try simp only [Act.put, List.setIfInBounds_toArray, List.set_cons_zero, List.set_cons_succ])) | (refine wpSeqB_offU rfl ?_; (try simp only [Act.put, List.setIfInBounds_toArray, List.set_cons_zero, List.set_cons_succ])))
          first | refine wpSeqB_call rfl (fun K hK => ?_) | refine wpSeqB_callG rfl rfl (fun K hK => ?_)
          go_simp
          refine (HIR.out _ (HH.out.2.2.2.below s2) (by omega)).mono ?_
          rintro e y2 ⟨z2, rfl, x2, bb2⟩
          have s3 : Ext w y2 := bt s2 bb2
          have o3' : OwN w.heap.size y2 z1 (l.fr B) := own_below o2 bb2
          have x4 := own_below x3 bb2
          obtain ⟨A2, c2, hz2, r2'⟩ := own_rv x2
          subst hz2
          (try go_wp2_with fail)
          refine hK.out _ _ s3 ?_
          clear hK K x2 bb2 o1 o2 x3
          (try simp only [List.getElem_toArray, List.getElem_cons_succ, List.getElem_cons_zero, Act.put, List.setIfInBounds_toArray, List.set_cons_zero, List.set_cons_succ])
          have hne : ∀ gg, z1.ownBlock = some gg → gg ≠ y1.heap.size := hne1
          first | refine wpSeqB_call rfl (fun K hK => ?_) | refine wpSeqB_callG rfl rfl (fun K hK => ?_)
          refine wp_appN _ _ (by rfl) w.heap.size z1 (l.fr B) (by rfl) o3' A2 (r.fr B).length c2 (r.fr B) (by rfl) r2' (by omega) (by omega) (Ext.size s3) ?_
          intro A3 n3 c3 y3 o4 r3 b3 g3
          have s4 : Ext w y3 := Below.trans s3 b3
          have x5 : y3.ownsRow w.heap.size TNP 1 (.slice (some ⟨y1.heap.size, 0, none⟩) 1 1) 1 [.pointer (some ⟨g, 0, none⟩)] := x4.kept g3 (Or.inr fun e => hne _ e.symm rfl)
          obtain ⟨A9, c9, he9, r4⟩ := own_rv x5
          injection he9 with f1 _ f3
          subst f1 f3
          refine hK.out _ _ s4 ?_
          clear hK K b3 g3
          (try simp only [List.getElem_toArray, List.getElem_cons_succ, List.getElem_cons_zero, Act.put, List.setIfInBounds_toArray, List.set_cons_zero, List.set_cons_succ])
          first | refine wpSeqB_call rfl (fun K hK => ?_) | refine wpSeqB_callG rfl rfl (fun K hK => ?_)
          refine wp_appN _ _ (by rfl) w.heap.size (.slice A3 n3 c3) (l.fr B ++ r.fr B) (by rfl) o4 (some ⟨y1.heap.size, 0, none⟩) 1 1 [g] (by rfl) r4 (by rw [List.length_append]; omega) (by omega) (Ext.size s4) ?_
          intro A5 n5 c5 y5 o5 r5 b5 g5
          have s5 : Ext w y5 := Below.trans s4 b5
          have HO := Lib.hid (show OwN w.heap.size y5 (.slice A5 n5 c5) ((MT.node g k v l r).fr B) by rw [HFR.out]; exact o5)
          have HX := Lib.hid s5
          refine hK.out _ _ s5 ?_
          clear hK K
          (try simp only [List.getElem_toArray, List.getElem_cons_succ, List.getElem_cons_zero, Act.put, List.setIfInBounds_toArray, List.set_cons_zero, List.set_cons_succ])
          repeat (first | (refine wpSeqB_pure (v := ?_) rfl ?_ ?_; rotate_left 1; (focus (intro wq_ hSq_; (try dsimp only at hSq_); go_simp; (try with_reducible rfl); done)); (try simp only [Act.put, List.setIfInBounds_toArray, List.set_cons_zero, List.set_cons_succ])) | (refine wpSeqB_pureG (v := ?_) rfl rfl ?_ ?_; rotate_left 1; (focus (intro wq_ hSq_; (try dsimp only at hSq_); go_simp; (try with_reducible rfl); done)); (try simp only [Act.put, List.setIfInBounds_toArray, List.set_cons_zero, List.set_cons_succ])) | (refine wpSeqB_off rfl rfl ?_; (try simp only [Act.put, List.setIfInBounds_toArray, List.set_cons_zero, List.set_cons_succ])) | (refine wpSeqB_offU rfl ?_; (try simp only [Act.put, List.setIfInBounds_toArray, List.set_cons_zero, List.set_cons_succ])))
          first | refine wpSeqB_call rfl (fun K hK => ?_) | refine wpSeqB_callG rfl rfl (fun K hK => ?_)
          go_simp
          refine hK.out _ _ s5 ?_
          clear hK K
          (try simp only [List.getElem_toArray, List.getElem_cons_succ, List.getElem_cons_zero, Act.put, List.setIfInBounds_toArray, List.set_cons_zero, List.set_cons_succ])
          repeat (first | (refine wpSeqB_pure (v := ?_) rfl ?_ ?_; rotate_left 1; (focus (intro wq_ hSq_; (try dsimp only at hSq_); go_simp; (try with_reducible rfl); done)); (try simp only [Act.put, List.setIfInBounds_toArray, List.set_cons_zero, List.set_cons_succ])) | (refine wpSeqB_pureG (v := ?_) rfl rfl ?_ ?_; rotate_left 1; (focus (intro wq_ hSq_; (try dsimp only at hSq_); go_simp; (try with_reducible rfl); done)); (try simp only [Act.put, List.setIfInBounds_toArray, List.set_cons_zero, List.set_cons_succ])) | (refine wpSeqB_off rfl rfl ?_; (try simp only [Act.put, List.setIfInBounds_toArray, List.set_cons_zero, List.set_cons_succ])) | (refine wpSeqB_offU rfl ?_; (try simp only [Act.put, List.setIfInBounds_toArray, List.set_cons_zero, List.set_cons_succ])))
          intro s_
          refine wpB_end (by kernel_rfl) ?_
          go_wp2_with fail
          go_returns
          exact ⟨_, rfl, HO.out, HX.out⟩
      · intro K hK
        go_simp
        have s1 := bt hst0 (Ext.allocR wd (.cells #[.pointer (some ⟨g, 0, none⟩)] TNP))
        refine hK.out _ _ s1 ?_
        clear hK K
        (try simp only [List.getElem_toArray, List.getElem_cons_succ, List.getElem_cons_zero, Act.put, List.setIfInBounds_toArray, List.set_cons_zero, List.set_cons_succ])
        have x1 := own_lit (base := w.heap.size) (w := wd) TNP 1 #[.pointer (some ⟨g, 0, none⟩)] 1 hBd (by omega) rfl
        refine wpB_chunk (f := 0) (L' := #[true, true, true, true, true, true, true, true, true, true, true, true, true, true, true]) hsel_ hQ_ [(4, false, some 16, none), (9, false, some 21, none), (10, false, some 22, none), (13, false, some 25, none), (14, false, some 2, none)] _ _ _ (by kernel_rfl) s1 ?_
        repeat (first | (refine wpSeqB_pure (v := ?_) rfl ?_ ?_; rotate_left 1; (focus (intro wq_ hSq_; (try dsimp only at hSq_); go_simp; (try with_reducible rfl); done)); (try simp only [Act.put, List.setIfInBounds_toArray, List.set_cons_zero, List.set_cons_succ])) | (refine wpSeqB_pureG (v := ?_) rfl rfl ?_ ?_; rotate_left 1; (focus (intro wq_ hSq_; (try dsimp only at hSq_); go_simp; (try with_reducible rfl); done)); (try simp only [Act.put, List.setIfInBounds_toArray, List.set_cons_zero, List.set_cons_succ])) | (refine wpSeqB_off rfl rfl ?_; (try simp only [Act.put, List.setIfInBounds_toArray, List.set_cons_zero, List.set_cons_succ])) | (refine wpSeqB_offU rfl ?_; (try simp only [Act.put, List.setIfInBounds_toArray, List.set_cons_zero, List.set_cons_succ])))
        first | refine wpSeqB_call rfl (fun K hK => ?_) | refine wpSeqB_callG rfl rfl (fun K hK => ?_)
        go_simp
        refine (HIL.out _ (HH.out.2.2.1.below s1) (by omega)).mono ?_
        rintro e y1 ⟨z1, rfl, x2, bb1⟩
        have s2 : Ext w y1 := bt s1 bb1
        have o1 : OwN w.heap.size y1 z1 (l.fr B) := own_lower x2 (Ext.size s1)
        have hne : ∀ gg, z1.ownBlock = some gg → gg ≠ wd.heap.size := fun gg e => by have := own_geE x2 gg e; simp at this; omega
        have x3 := own_below x1 bb1
        (try go_wp2_with fail)
        refine hK.out _ _ s2 ?_
        clear hK K x2 bb1 x1
        (try simp only [List.getElem_toArray, List.getElem_cons_succ, List.getElem_cons_zero, Act.put, List.setIfInBounds_toArray, List.set_cons_zero, List.set_cons_succ])
        first | refine wpSeqB_call rfl (fun K hK => ?_) | refine wpSeqB_callG rfl rfl (fun K hK => ?_)
        go_simp
        refine (HIR.out y1 (HH.out.2.2.2.below s2) (by omega)).mono ?_
        rintro e y2 ⟨z2, rfl, x2, bb2⟩
        have s3 : Ext w y2 := bt s2 bb2
        have o3' : OwN w.heap.size y2 z1 (l.fr B) := own_below o1 bb2
        have x4 := own_below x3 bb2
        obtain ⟨A2, c2, hz2, r2'⟩ := own_rv x2
        subst hz2
        (try go_wp2_with fail)
        refine hK.out _ _ s3 ?_
        clear hK K x2 bb2 o1 x3
        (try simp only [List.getElem_toArray, List.getElem_cons_succ, List.getElem_cons_zero, Act.put, List.setIfInBounds_toArray, List.set_cons_zero, List.set_cons_succ])
        first | refine wpSeqB_call rfl (fun K hK => ?_) | refine wpSeqB_callG rfl rfl (fun K hK => ?_)
        refine wp_appN _ _ (by rfl) w.heap.size z1 (l.fr B) (by rfl) o3' A2 (r.fr B).length c2 (r.fr B) (by rfl) r2' (by omega) (by omega) (Ext.size s3) ?_
        intro A3 n3 c3 y3 o4 r3 b3 g3
        have s4 : Ext w y3 := Below.trans s3 b3
        have x5 : y3.ownsRow w.heap.size TNP 1 (.slice (some ⟨wd.heap.size, 0, none⟩) 1 1) 1 [.pointer (some ⟨g, 0, none⟩)] := x4.kept g3 (Or.inr fun e => hne _ e.symm rfl)
        obtain ⟨A9, c9, he9, r4⟩ := own_rv x5
        injection he9 with f1 _ f3
        subst f1 f3
        refine hK.out _ _ s4 ?_
        clear hK K b3 g3
        (try simp only [List.getElem_toArray, List.getElem_cons_succ, List.getElem_cons_zero, Act.put, List.setIfInBounds_toArray, List.set_cons_zero, List.set_cons_succ])
        first | refine wpSeqB_call rfl (fun K hK => ?_) | refine wpSeqB_callG rfl rfl (fun K hK => ?_)
        refine wp_appN _ _ (by rfl) w.heap.size (.slice A3 n3 c3) (l.fr B ++ r.fr B) (by rfl) o4 (some ⟨wd.heap.size, 0, none⟩) 1 1 [g] (by rfl) r4 (by rw [List.length_append]; omega) (by omega) (Ext.size s4) ?_
        intro A5 n5 c5 y5 o5 r5 b5 g5
        have s5 : Ext w y5 := Below.trans s4 b5
        have HO := Lib.hid (show OwN w.heap.size y5 (.slice A5 n5 c5) ((MT.node g k v l r).fr B) by rw [HFR.out]; exact o5)
        have HX := Lib.hid s5
        refine hK.out _ _ s5 ?_
        clear hK K
        (try simp only [List.getElem_toArray, List.getElem_cons_succ, List.getElem_cons_zero, Act.put, List.setIfInBounds_toArray, List.set_cons_zero, List.set_cons_succ])
        repeat (first | (refine wpSeqB_pure (v := ?_) rfl ?_ ?_; rotate_left 1; (focus (intro wq_ hSq_; (try dsimp only at hSq_); go_simp; (try with_reducible rfl); done)); (try simp only [Act.put, List.setIfInBounds_toArray, List.set_cons_zero, List.set_cons_succ])) | (refine wpSeqB_pureG (v := ?_) rfl rfl ?_ ?_; rotate_left 1; (focus (intro wq_ hSq_; (try dsimp only at hSq_); go_simp; (try with_reducible rfl); done)); (try simp only [Act.put, List.setIfInBounds_toArray, List.set_cons_zero, List.set_cons_succ])) | (refine wpSeqB_off rfl rfl ?_; (try simp only [Act.put, List.setIfInBounds_toArray, List.set_cons_zero, List.set_cons_succ])) | (refine wpSeqB_offU rfl ?_; (try simp only [Act.put, List.setIfInBounds_toArray, List.set_cons_zero, List.set_cons_succ])))
        first | refine wpSeqB_call rfl (fun K hK => ?_) | refine wpSeqB_callG rfl rfl (fun K hK => ?_)
        go_simp
        refine hK.out _ _ s5 ?_
        clear hK K
        (try simp only [List.getElem_toArray, List.getElem_cons_succ, List.getElem_cons_zero, Act.put, List.setIfInBounds_toArray, List.set_cons_zero, List.set_cons_succ])
        repeat (first | (refine wpSeqB_pure (v := ?_) rfl ?_ ?_; rotate_left 1; (focus (intro wq_ hSq_; (try dsimp only at hSq_); go_simp; (try with_reducible rfl); done)); (try simp only [Act.put, List.setIfInBounds_toArray, List.set_cons_zero, List.set_cons_succ])) | (refine wpSeqB_pureG (v := ?_) rfl rfl ?_ ?_; rotate_left 1; (focus (intro wq_ hSq_; (try dsimp only at hSq_); go_simp; (try with_reducible rfl); done)); (try simp only [Act.put, List.setIfInBounds_toArray, List.set_cons_zero, List.set_cons_succ])) | (refine wpSeqB_off rfl rfl ?_; (try simp only [Act.put, List.setIfInBounds_toArray, List.set_cons_zero, List.set_cons_succ])) | (refine wpSeqB_offU rfl ?_; (try simp only [Act.put, List.setIfInBounds_toArray, List.set_cons_zero, List.set_cons_succ])))
        intro s_
        refine wpB_end (by kernel_rfl) ?_
        go_wp2_with fail
        go_returns
        exact ⟨_, rfl, HO.out, HX.out⟩
end Go.Proofs.Tb
/- Contract of a node's encode. -/
namespace Go.Proofs.Tb
open Go.RowKit
attribute [local go_sem] cell_set_same

/-- The block of a tree's root. -/
def MT.bk (B : Nat → Nat) : MT → Nat
  | .nil => 0
  | .node g _ _ _ _ => B g
theorem nodB_lt (k v : Str) (l r h : Nat) : ∀ b ∈ nodB k v l r h, b < 256 := fun b hb => by
  unfold nodB at hb
  simp only [List.mem_append, List.mem_singleton] at hb
  rcases hb with ((((rfl | hb) | hb) | hb) | hb) | hb
  · omega
  · exact txB_lt _ _ b hb
  · exact txB_lt _ _ b hb
  · exact beB_lt _ _ b hb
  · exact beB_lt _ _ b hb
  · exact beB_lt _ _ b hb
theorem own_lit_u8 {w : World} (b : Nat) : OwB w.heap.size (w.alloc (.cells #[.int .u8 (b : Int)] TU8)) (.slice (some ⟨w.heap.size, 0, none⟩) 1 1) [b] := own_lit TU8 1 #[.int .u8 (b : Int)] 1 (Nat.le_refl _) (by omega) rfl
set_option maxHeartbeats 6400000 in
set_option maxRecDepth 100000 in
theorem rencode_any (B : Nat → Nat) (Q : Nat → Prop) (g : Nat) (k v : Str) (l r : MT) (w : World) (h : TrW w B Q (.node g k v l r)) (hk : k.size ≤ 12) (hv : v.size ≤ 24) (hs : l.er.size + r.er.size ≤ 1000000) (hB : ∀ g, B g ≤ 1000000) :
    Calls Try.prog 85 #[.pointer (some ⟨g, 0, none⟩)] w (Ret (fun z w' => ∃ A c, z = .slice A 64 c ∧ OwB w.heap.size w' (.slice A 64 c) (blkB (nodB k v (l.bk B) (r.bk B) (1 + max l.er.ht r.er.ht)))) w) := by
  have HH := Lib.hid h
  have hb1 := l.er.ht_size
  have hb2 := r.er.ht_size
  have HBB := Lib.hid hB
  clear h hB
  go_enter Try.func85, Try.ntmps85
  go_upto_region 2 with fail
  have x1 : Ext w (w.alloc (.cells #[.int .u8 110] TU8)) := Ext.allocR _ _
  have x2 : Ext (w.alloc (.cells #[.int .u8 110] TU8)) ((w.alloc (.cells #[.int .u8 110] TU8)).alloc (.cells #[.slice (some ⟨w.heap.size, 0, none⟩) 1 1] TWR)) := Ext.allocR _ _
  refine wp_world (fun W => WrW w.heap.size (w.heap.size + 1) W [110] ∧ Ext w W) ⟨⟨_, Blk.new_ _ _ (by simp), own_below (own_lit_u8 (w := w) 110) x2⟩, bt x1 x2⟩ ?_
  clear x1 x2
  rintro W1 ⟨hw1, hx1⟩
  obtain ⟨p, hp⟩ : ∃ p, w.heap.size = p := ⟨_, rfl⟩
  rw [hp] at hw1 ⊢
  have hgp : g < p := by rw [← hp]; exact HH.out.1.lt
  have HP := Lib.hid hp
  have HW1 := Lib.hid hw1
  have HX1 := Lib.hid (show Below p w W1 by rw [← hp]; exact hx1)
  have N1 := Lib.hid (HH.out.below hx1)
  have c1 := N1.out.1.cells
  simp only [cellsAre, Nat.zero_add, Nat.reduceAdd, and_true] at c1
  clear hw1 hx1 hp
  go_wp2_with fail
  refine (rtext_any p (p + 1) [110] k 12 W1 HW1.out (by omega) (by simp) hk (by omega)).mono ?_
  rintro e w2 ⟨⟨z2, rfl⟩, hw2, hb2', _⟩
  have HW2 := Lib.hid hw2
  have HX2 := Lib.hid (HX1.out.trans hb2')
  have hbw2 : Ext w w2 := by show Below w.heap.size w w2; rw [HP.out]; exact HX2.out
  have N2 := Lib.hid (HH.out.below hbw2)
  have c2 := N2.out.1.cells
  simp only [cellsAre, Nat.zero_add, Nat.reduceAdd, and_true] at c2
  have t12 := txB_len hk
  clear hw2 hb2' c1 HW1 N1 hbw2
  go_wp2_with fail
  refine (rtext_any p (p + 1) ([110] ++ txB k 12) v 24 w2 HW2.out (by omega) (by rw [List.length_append, t12]; simp) hv (by omega)).mono ?_
  rintro e w3 ⟨⟨z3, rfl⟩, hw3, hb3', _⟩
  have HW3 := Lib.hid hw3
  have HX3 := Lib.hid (HX2.out.trans hb3')
  have hbw3 : Ext w w3 := by show Below w.heap.size w w3; rw [HP.out]; exact HX3.out
  have N3 := Lib.hid (HH.out.below hbw3)
  have k3 := fun w' (hh : Ext w3 w') => (N3.out.1.below hh).cells
  simp only [cellsAre, Nat.zero_add, Nat.reduceAdd, and_true] at k3
  have t24 := txB_len hv
  have hst : Ext w3 w3.drew := Ext.drew _
  have hp3 : p + 1 < w3.heap.size := by obtain ⟨v, h1, _⟩ := HW3.out; exact h1.lt
  clear hw3 hb3' c2 HW2 N2 hbw3
  obtain ⟨bs, hbs⟩ : ∃ bs, [110] ++ txB k 12 ++ txB v 24 = bs := ⟨_, rfl⟩
  rw [hbs] at HW3
  have hbl : bs.length = 39 := by rw [← hbs]; simp only [List.length_append, t12, t24, List.length_cons, List.length_nil]
  have HBS := Lib.hid hbs
  clear hbs
  go_upto_region 4 with fail
  refine wp_region_adv 11 [] [(0, true, some 22, none), (1, true, some 23, none), (2, true, some 24, none), (3, true, some 25, none), (4, true, some 26, none), (5, true, some 27, none), (6, true, some 28, none), (7, true, some 29, none), (10, true, some 32, none), (8, false, some 30, none), (9, true, some 31, none)] (by kernel_rfl) (by kernel_rfl) (by kernel_rfl) (by intro it hit; (repeat (rcases List.mem_cons.1 hit with rfl | hit; (focus (intro o ho ev w; injection ho with ho; subst ho; kernel_rfl)))); cases hit) (fun _ _ _ _ _ => ⟨fun h => h, fun h => h⟩) hst ?_
  repeat (first | (refine wpSeq_pure (v := ?_) rfl ?_ ?_; rotate_left 1; (focus (intro wq_ hSq_; (try dsimp only at hSq_); go_simp; (try with_reducible rfl); done)); (try simp only [Act.put, List.setIfInBounds_toArray, List.set_cons_zero, List.set_cons_succ])) | (refine wpSeq_pureG (v := ?_) rfl rfl ?_ ?_; rotate_left 1; (focus (intro wq_ hSq_; (try dsimp only at hSq_); go_simp; (try with_reducible rfl); done)); (try simp only [Act.put, List.setIfInBounds_toArray, List.set_cons_zero, List.set_cons_succ])) | (refine wpSeq_off rfl rfl ?_; (try simp only [Act.put, List.setIfInBounds_toArray, List.set_cons_zero, List.set_cons_succ])) | (refine wpSeq_offU rfl ?_; (try simp only [Act.put, List.setIfInBounds_toArray, List.set_cons_zero, List.set_cons_succ])))
  first | refine wpSeq_call rfl (fun u1 g1 s1 K hK => ?_) | refine wpSeq_callG rfl rfl (fun u1 g1 s1 K hK => ?_)
  go_simp
  (try go_wp2_with fail)
  refine hK.out _ _ (Ext.allocR _ _) ?_
  clear hK K
  (try simp only [Act.put, List.setIfInBounds_toArray, List.set_cons_zero, List.set_cons_succ])
  repeat (first | (refine wpSeq_pure (v := ?_) rfl ?_ ?_; rotate_left 1; (focus (intro wq_ hSq_; (try dsimp only at hSq_); go_simp; (try with_reducible rfl); done)); (try simp only [Act.put, List.setIfInBounds_toArray, List.set_cons_zero, List.set_cons_succ])) | (refine wpSeq_pureG (v := ?_) rfl rfl ?_ ?_; rotate_left 1; (focus (intro wq_ hSq_; (try dsimp only at hSq_); go_simp; (try with_reducible rfl); done)); (try simp only [Act.put, List.setIfInBounds_toArray, List.set_cons_zero, List.set_cons_succ])) | (refine wpSeq_off rfl rfl ?_; (try simp only [Act.put, List.setIfInBounds_toArray, List.set_cons_zero, List.set_cons_succ])) | (refine wpSeq_offU rfl ?_; (try simp only [Act.put, List.setIfInBounds_toArray, List.set_cons_zero, List.set_cons_succ])))
  intro w4 g4 s4
  (try simp only [endJ, List.drop_succ_cons, List.drop_zero])
  have HR := Lib.hid (show Blk w4 u1.heap.size TNP #[.pointer l.ad, .pointer r.ad] from (Blk.new_ TNP #[.pointer l.ad, .pointer r.ad] rfl).below g4)
  obtain ⟨R, hR⟩ : ∃ R, u1.heap.size = R := ⟨_, rfl⟩
  have hRp : p + 1 < R := by rw [← hR]; exact Nat.lt_of_lt_of_le hp3 (Ext.size s1)
  rw [hR] at HR ⊢
  have HW4 := Lib.hid (show WrW p (p + 1) w4 bs from by
    obtain ⟨v, h1, h2⟩ := HW3.out
    exact ⟨v, h1.below s4, own_below h2 s4⟩)
  have HX4 := Lib.hid (HX3.out.trans (Below.mono s4 (by omega)))
  clear k3 hst s1 g1 g4 s4 HW3 HX3 N3 hR
  have tl := beB_len (l.bk B) 2
  have tr := beB_len (r.bk B) 2
  have HXB := Lib.hid (show ∀ wr, Below p w wr → Ext w wr from fun wr hh => by show Below w.heap.size w wr; rw [HP.out]; exact hh)
  obtain ⟨kb, hkb⟩ : ∃ kb, beB (l.bk B) 2 ++ beB (r.bk B) 2 = kb := ⟨_, rfl⟩
  have HW40 := Lib.hid (show WrW p (p + 1) w4 (bs ++ kb.take (2 * 0)) by rw [Nat.mul_zero, List.take_zero, List.append_nil]; exact HW4.out)
  have hkl : kb.length = 4 := by rw [← hkb, List.length_append, tl, tr]
  have HKB := Lib.hid hkb
  clear hkb HW4
  go_wp2_with fail
  go_loopw [32] (fun i wr => ∃ j : Nat, j ≤ 2 ∧ i = .int .i64 (j : Int) ∧ WrW p (p + 1) wr (bs ++ kb.take (2 * j)) ∧ Below p w wr ∧ FrW (p + 1) w4 wr) (fun i _ => 2 - (intOf i).toNat)
  case atStart => exact ⟨0, by omega, rfl, HW40.out, HX4.out, FrW.refl _ _⟩
  case round =>
    clear HW40
    obtain ⟨j, hj, rfl, hw, hbx, hfr⟩ := hrel
    have HW := Lib.hid hw
    have HX := Lib.hid hbx
    have HFR := Lib.hid hfr
    have N := Lib.hid (HH.out.below (HXB.out wr hbx))
    by_cases hj2 : j < 2
    · have pj : (j : Int) < 2 := by omega
      have hbR : Blk wr R TNP #[.pointer l.ad, .pointer r.ad] := hfr.blk HR.out (by decide) (by omega)
      obtain ⟨ch, hcell, hch, hby⟩ : ∃ ch : MT, wr.cell? ⟨R, j, none⟩ = some (.pointer ch.ad) ∧ TrW wr B Q ch ∧ kb.take (2 * (j + 1)) = kb.take (2 * j) ++ beB (ch.bk B) 2 := by
        obtain rfl | rfl : j = 0 ∨ j = 1 := by omega
        · refine ⟨l, (cell_of_row wr R 0 _ TNP (0, 0) hbR).trans rfl, N.out.2.2.1, ?_⟩
          rw [← HKB.out, Nat.mul_zero, List.take_zero, List.nil_append]
          rw [List.take_append_of_le_length (by rw [tl]; omega), List.take_of_length_le (by rw [tl]; omega)]
        · refine ⟨r, (cell_of_row wr R 1 _ TNP (0, 0) hbR).trans rfl, N.out.2.2.2, ?_⟩
          rw [← HKB.out, List.take_of_length_le (by rw [List.length_append, tl, tr]; omega), List.take_append_of_le_length (by rw [tl]; omega), List.take_of_length_le (by rw [tl]; omega)]
      have HBY := Lib.hid hby
      have hlw : (bs ++ kb.take (2 * j)).length ≤ 100 := by rw [List.length_append, List.length_take]; omega
      clear hby hbR hfr hbx hw
      cases ch with
      | nil =>
        have hcell' : wr.cell? ⟨R, j, none⟩ = some (.pointer none) := hcell
        clear hcell hch
        go_wp2_with fail
        refine (rnum_any p (p + 1) (bs ++ kb.take (2 * j)) 0 2 wr HW.out (by omega) (by omega) (by omega) (by omega)).mono ?_
        rintro e w6 ⟨⟨z6, rfl⟩, hw6, hb6, hf6⟩
        have HZ := Lib.hid (show WrW p (p + 1) w6 (bs ++ kb.take (2 * (j + 1))) by rw [HBY.out]; rw [List.append_assoc] at hw6; exact hw6)
        have HX6 := Lib.hid (HX.out.trans hb6)
        have HF6 := Lib.hid (HFR.out.trans hf6)
        clear hw6 hb6 hf6
        go_wp2
        go_roundw
        case rel => exact ⟨j + 1, by omega, by go_num, HZ.out, HX6.out, HF6.out⟩
        case measure => simp [intOf]; omega
      | node gc kc vc lc rc =>
        rw [MT.ad_node] at hcell
        have cc := hch.1.cells
        simp only [cellsAre, Nat.zero_add, Nat.reduceAdd, and_true] at cc
        have hBc := HBB.out gc
        have hbk : (MT.node gc kc vc lc rc).bk B = B gc := rfl
        rw [hbk] at HBY
        clear hch hbk
        go_wp2_with fail
        refine (rnum_any p (p + 1) (bs ++ kb.take (2 * j)) (B gc) 2 wr HW.out (by omega) (by omega) (by omega) (by omega)).mono ?_
        rintro e w6 ⟨⟨z6, rfl⟩, hw6, hb6, hf6⟩
        have HZ := Lib.hid (show WrW p (p + 1) w6 (bs ++ kb.take (2 * (j + 1))) by rw [HBY.out]; rw [List.append_assoc] at hw6; exact hw6)
        have HX6 := Lib.hid (HX.out.trans hb6)
        have HF6 := Lib.hid (HFR.out.trans hf6)
        clear hw6 hb6 hf6
        go_wp2
        go_roundw
        case rel => exact ⟨j + 1, by omega, by go_num, HZ.out, HX6.out, HF6.out⟩
        case measure => simp [intOf]; omega
    · obtain rfl : j = 2 := by omega
      have cn := N.out.1.cells
      simp only [cellsAre, Nat.zero_add, Nat.reduceAdd, and_true] at cn
      have HB5 := Lib.hid (show bs ++ kb.take (2 * 2) = bs ++ kb by rw [List.take_of_length_le (by omega)])
      have hlw : (bs ++ kb).length = 43 := by rw [List.length_append]; omega
      obtain ⟨H, hH⟩ : ∃ H, 1 + max l.er.ht r.er.ht = H := ⟨_, rfl⟩
      rw [hH] at cn
      have hHl : H ≤ 1000001 := by omega
      have HW5 := Lib.hid (show WrW p (p + 1) wr (bs ++ kb) by rw [← HB5.out]; exact HW.out)
      have HHH := Lib.hid hH
      clear hw hbx hfr hH
      go_wp2_with fail
      refine (rnum_any p (p + 1) (bs ++ kb) H 1 wr HW5.out (by omega) (by omega) (by omega) (by omega)).mono ?_
      rintro e w6 ⟨⟨z6, rfl⟩, hw6, hb6, _⟩
      have HW6 := Lib.hid hw6
      have HX6 := Lib.hid (HX.out.trans hb6)
      have hlw6 : (bs ++ kb ++ beB H 1).length = 44 := by rw [List.length_append, beB_len]; omega
      have hby6 : bs ++ kb ++ beB H 1 = nodB k v (l.bk B) (r.bk B) H := by
        rw [← HBS.out, ← HKB.out]
        unfold nodB
        simp only [List.append_assoc]
      rw [hby6] at HW6 hlw6
      have hlt : ∀ b ∈ nodB k v (l.bk B) (r.bk B) H, b < 256 := nodB_lt _ _ _ _ _
      clear hw6 hb6 hby6 cn
      go_wp2_with fail
      refine (rdone_any p (p + 1) _ w6 HW6.out (by omega) (by omega) hlt).mono ?_
      rintro e w7 ⟨A7, c7, rfl, ho7, hb7⟩
      have HZ := Lib.hid (And.intro ho7 (HX6.out.trans hb7))
      clear ho7 hb7
      go_wp2
      go_returns
      exact ⟨_, rfl, ⟨A7, c7, rfl, by rw [HP.out, HHH.out]; exact HZ.out.1⟩, HXB.out _ HZ.out.2⟩
end Go.Proofs.Tb
/- Contracts of a head's encode and of slices.Clone at bytes. -/
namespace Go.Proofs.Tb
open Go.RowKit
attribute [local go_sem] cell_set_same

abbrev THD : TypeId := 121
theorem Blk.low {w w' : World} {B g : Nat} {t : TypeId} {cs : Array Value} (h : Blk w g t cs) (hb : Below B w w') (hg : g < B) : Blk w' g t cs := (hb.block g hg).trans h
def ri (roots : List Nat) : List Value := roots.map fun (r : Nat) => .int .i64 (r : Int)
theorem ri_len (roots : List Nat) : (ri roots).length = roots.length := by simp [ri]
theorem rootB_lt (keep number : Nat) (roots : List Nat) : ∀ b ∈ rootB keep number roots, b < 256 := fun b hb => by
  unfold rootB at hb
  simp only [List.mem_append, List.mem_singleton, List.mem_flatten, List.mem_map] at hb
  rcases hb with (((rfl | hb) | hb) | hb) | ⟨l, ⟨r, _, rfl⟩, hb⟩
  · omega
  · exact beB_lt _ _ b hb
  · exact beB_lt _ _ b hb
  · exact beB_lt _ _ b hb
  · exact beB_lt _ _ b hb
set_option maxHeartbeats 6400000 in
set_option maxRecDepth 100000 in
theorem rhead_any (keep number : Nat) (A : Option Addr) (n c : Nat) (roots : List Nat) (w : World) (h : Rv w 1 A n c (ri roots)) (hk : keep ≤ 1000) (hnum : number ≤ 4611686018427387904) (hn : n ≤ 20) (hr : ∀ r ∈ roots, r ≤ 1000000) :
    Calls Try.prog 86 #[.agg #[.int .i64 (keep : Int), .int .i64 (number : Int), .slice A n c]] w (Ret (fun z w' => ∃ A c, z = .slice A 64 c ∧ OwB w.heap.size w' (.slice A 64 c) (blkB (rootB keep number roots))) w) := by
  have hl : roots.length = n := by have := h.len; rw [ri_len, Nat.mul_one] at this; exact this
  have hle := h.le
  have hcap := h.cap
  have HL := Lib.hid hl
  have H := Lib.hid h
  have HR := Lib.hid hr
  clear h hr hl
  go_enter Try.func86, Try.ntmps86
  go_upto_region 2 with fail
  have x0 : Ext w (w.alloc (.cells #[.int .i64 (keep : Int), .int .i64 (number : Int), .slice A n c] THD)) := Ext.allocR _ _
  obtain ⟨W0, hW0⟩ : ∃ W0, W0 = w.alloc (.cells #[.int .i64 (keep : Int), .int .i64 (number : Int), .slice A n c] THD) := ⟨_, rfl⟩
  have b0 : Blk W0 w.heap.size THD #[.int .i64 (keep : Int), .int .i64 (number : Int), .slice A n c] := by rw [hW0]; exact Blk.new_ _ _ rfl
  have e0 : W0.heap.size = w.heap.size + 1 := by rw [hW0]; simp
  rw [← hW0] at x0 ⊢
  have x1 : Ext W0 (W0.alloc (.cells #[.int .u8 114] TU8)) := Ext.allocR _ _
  have x2 : Ext (W0.alloc (.cells #[.int .u8 114] TU8)) ((W0.alloc (.cells #[.int .u8 114] TU8)).alloc (.cells #[.slice (some ⟨w.heap.size + 1, 0, none⟩) 1 1] TWR)) := Ext.allocR _ _
  have o1 := own_lit_u8 (w := W0) 114
  rw [e0] at o1
  refine wp_world (fun W => WrW (w.heap.size + 1) (w.heap.size + 1 + 1) W [114] ∧ Blk W w.heap.size THD #[.int .i64 (keep : Int), .int .i64 (number : Int), .slice A n c] ∧ Ext w W) ⟨⟨_, Blk.new_ _ _ (by simp; omega), own_below o1 x2⟩, (b0.below x1).below x2, bt x0 (bt x1 x2)⟩ ?_
  clear x0 x1 x2 o1 b0 e0 hW0 W0
  rintro W1 ⟨hw1, hb1, hx1⟩
  obtain ⟨p, hp⟩ : ∃ p, w.heap.size = p := ⟨_, rfl⟩
  rw [hp] at hw1 hb1 ⊢
  have HP := Lib.hid hp
  have HX1 := Lib.hid hx1
  have HB1 := Lib.hid hb1
  have HW1 := Lib.hid hw1
  have hps : p + 1 ≤ W1.heap.size := hb1.lt
  have kk := fun w' (hh : Below (p + 1) W1 w') => (HB1.out.low hh (by omega)).cells
  simp only [cellsAre, Nat.zero_add, Nat.reduceAdd, and_true] at kk
  have c1 := kk W1 (Below.refl _ _)
  have KK := Lib.hid kk
  clear hw1 hb1 hx1 hp kk
  go_wp2_with fail
  refine (rnum_any (p + 1) (p + 1 + 1) [114] keep 1 W1 HW1.out (by omega) (by simp) (by omega) (by omega)).mono ?_
  rintro e w2 ⟨⟨z2, rfl⟩, hw2, hb2, _⟩
  have HW2 := Lib.hid hw2
  have HX2 := Lib.hid hb2
  have c2 := KK.out w2 hb2
  clear hw2 hb2 c1 HW1
  go_wp2_with fail
  refine (rnum_any (p + 1) (p + 1 + 1) ([114] ++ beB keep 1) number 8 w2 HW2.out (by omega) (by simp [beB_len]) (by omega) (by omega)).mono ?_
  rintro e w3 ⟨⟨z3, rfl⟩, hw3, hb3, _⟩
  have HW3 := Lib.hid hw3
  have HX3 := Lib.hid (HX2.out.trans hb3)
  have c3 := KK.out w3 HX3.out
  clear hw3 hb3 c2 HW2
  go_wp2_with fail
  refine (rnum_any (p + 1) (p + 1 + 1) ([114] ++ beB keep 1 ++ beB number 8) n 1 w3 HW3.out (by omega) (by simp [beB_len]) (by omega) (by omega)).mono ?_
  rintro e w4 ⟨⟨z4, rfl⟩, hw4, hb4, _⟩
  obtain ⟨bs, hbs⟩ : ∃ bs, [114] ++ beB keep 1 ++ beB number 8 ++ beB n 1 = bs := ⟨_, rfl⟩
  rw [hbs] at hw4
  have hbl : bs.length = 11 := by rw [← hbs]; simp [beB_len]
  have HBS := Lib.hid hbs
  have HW4 := Lib.hid (show WrW (p + 1) (p + 1 + 1) w4 (bs ++ ((roots.take 0).map fun r => beB r 2).flatten) by rw [List.take_zero, List.map_nil, List.flatten_nil, List.append_nil]; exact hw4)
  have HX4 := Lib.hid (HX3.out.trans hb4)
  have c4 := KK.out w4 HX4.out
  have HEX := Lib.hid (show ∀ wr, Below (p + 1) W1 wr → Ext w wr from fun wr hh => by show Below w.heap.size w wr; exact Below.trans HX1.out (Below.mono hh (by rw [HP.out]; omega)))
  clear hw4 hb4 c3 HW3 hbs
  go_wp2_with fail
  go_loopw [25] (fun i wr => ∃ j : Nat, j ≤ n ∧ i = .int .i64 (j : Int) ∧ WrW (p + 1) (p + 1 + 1) wr (bs ++ ((roots.take j).map fun r => beB r 2).flatten) ∧ Below (p + 1) W1 wr) (fun i _ => n - (intOf i).toNat)
  case atStart => exact ⟨0, by omega, rfl, HW4.out, HX4.out⟩
  case round =>
    clear HW4 c4
    obtain ⟨j, hj, rfl, hw, hbx⟩ := hrel
    have HW := Lib.hid hw
    have HX := Lib.hid hbx
    by_cases hjn : j < n
    · have pj : (j : Int) < (n : Int) := by omega
      have hjl : j < roots.length := by rw [HL.out]; exact hjn
      obtain ⟨b, o, rfl, hc⟩ := (H.out.below (HEX.out wr hbx)).at_ (by omega)
      obtain ⟨y, hy⟩ : ∃ y, roots.getD j 0 = y := ⟨_, rfl⟩
      have hyg : roots[j] = y := by rw [← hy]; simp [List.getD, hjl]
      have ck := hc j (.int .i64 (y : Int)) (by unfold ri; rw [List.getElem?_map, List.getElem?_eq_getElem hjl, hyg]; rfl)
      have hyl : y ≤ 1000000 := HR.out y (by rw [← hyg]; exact List.getElem_mem hjl)
      have HN := Lib.hid (show ((roots.take (j + 1)).map fun r => beB r 2).flatten = ((roots.take j).map fun r => beB r 2).flatten ++ beB y 2 by
        rw [List.take_succ_eq_append_getElem hjl, List.map_append, List.flatten_append, hyg]; simp)
      have hlw : (bs ++ ((roots.take j).map fun r => beB r 2).flatten).length ≤ 100 := by rw [List.length_append, flat2_len, List.length_take]; omega
      clear hc hy hyg hw hbx
      go_wp2_with fail
      refine (rnum_any (p + 1) (p + 1 + 1) _ y 2 wr HW.out (by omega) (by omega) (by omega) (by omega)).mono ?_
      rintro e w6 ⟨⟨z6, rfl⟩, hw6, hb6, _⟩
      have HZ := Lib.hid (show WrW (p + 1) (p + 1 + 1) w6 (bs ++ ((roots.take (j + 1)).map fun r => beB r 2).flatten) by rw [HN.out, ← List.append_assoc]; exact hw6)
      have HX6 := Lib.hid (HX.out.trans hb6)
      clear hw6 hb6 ck
      go_wp2
      go_roundw
      case rel => exact ⟨j + 1, by omega, by go_num, HZ.out, HX6.out⟩
      case measure => simp [intOf]; omega
    · obtain rfl : j = n := by omega
      have hby : bs ++ ((roots.take j).map fun r => beB r 2).flatten = rootB keep number roots := by
        rw [List.take_of_length_le (by rw [HL.out]; exact Nat.le_refl _), ← HBS.out]
        unfold rootB
        rw [HL.out]
      have HW5 := Lib.hid (show WrW (p + 1) (p + 1 + 1) wr (rootB keep number roots) by rw [← hby]; exact hw)
      have hlw : (rootB keep number roots).length ≤ 60 := by rw [rootB_len, HL.out]; omega
      have hlt := rootB_lt keep number roots
      clear hw hbx hby
      go_wp2_with fail
      refine (rdone_any (p + 1) (p + 1 + 1) _ wr HW5.out (by omega) hlw hlt).mono ?_
      rintro e w7 ⟨A7, c7, rfl, ho7, hb7⟩
      have HZ := Lib.hid (And.intro ho7 (HX.out.trans hb7))
      clear ho7 hb7
      go_wp2
      go_returns
      exact ⟨_, rfl, ⟨A7, c7, rfl, by rw [HP.out]; exact own_lower HZ.out.1 (by omega)⟩, HEX.out _ HZ.out.2⟩
end Go.Proofs.Tb
