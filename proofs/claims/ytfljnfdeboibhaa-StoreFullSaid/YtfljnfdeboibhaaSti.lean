/- Contracts of the writer's number. -/
import Derived.Test.YtfljnfdeboibhaaStb
import Derived.Test.YtfljnfdeboibhaaStl
import Derived.Test.YtfljnfdeboibhaaBrn
import Derived.Test.YtfljnfdeboibhaaProg
import Derived.Deep.DeepCutAuto
set_option linter.unusedVariables false
set_option linter.unusedSimpArgs false
namespace Go.Proofs.Tb
open Go.RowKit
attribute [local go_sem] cell_set_same

abbrev TWR : TypeId := 165
abbrev TU8 : TypeId := 5
abbrev TBY : TypeId := 44
theorem u8_info : (Try.prog.info? TU8).map (fun i => (i.zero, i.size, i.bytes)) = some (some (.int .u8 0), 1, 1) := by kernel_rfl
def bc (bs : List Nat) : List Value := bs.map fun (b : Nat) => .int .u8 (b : Int)
theorem bc_len (bs : List Nat) : (bc bs).length = bs.length := by simp [bc]
theorem bc_app (a b : List Nat) : bc (a ++ b) = bc a ++ bc b := List.map_append
theorem bc_one (bs : List Nat) : ∀ u ∈ bc bs, u.oneCell' = true := fun u hu => by
  obtain ⟨g, _, rfl⟩ := List.mem_map.1 hu
  rfl
/-- A row of bytes that the call owns. -/
def OwB (base : Nat) (w : World) (v : Value) (bs : List Nat) : Prop := w.ownsRow base TU8 1 v bs.length (bc bs)
theorem beB_take (n : Nat) : ∀ (size j : Nat), 1 ≤ j → j ≤ size → (beB n size).take (size - (j - 1)) = (beB n size).take (size - j) ++ [n / 2 ^ (8 * (j - 1)) % 256]
  | 0, j, h1, h2 => by omega
  | s + 1, j, h1, h2 => by
    by_cases hj : j = s + 1
    · subst hj
      rw [show s + 1 - (s + 1 - 1) = 1 by omega, show s + 1 - (s + 1) = 0 by omega]
      simp [beB]
    · have ih := beB_take n s j h1 (by omega)
      rw [show s + 1 - (j - 1) = (s - (j - 1)) + 1 by omega, show s + 1 - j = (s - j) + 1 by omega]
      unfold beB
      rw [List.take_succ_cons, List.take_succ_cons, ih]
      rfl
theorem wp_appU {o : Oper} {a : Act} {K : Act → World → Prop} {Q : Exit → Act → World → Prop} {w : World} (s x : Operand)
    (ho : o.op = .call { callee := .builtin .append, args := #[s, x], argTypes := #[TBY, TBY] }) (base : Nat) (v : Value) (bs : List Nat) (hs : a.eval s = v) (hown : OwB base w v bs)
    (A : Option Addr) (m c : Nat) (cs : List Nat) (hx : a.eval x = .slice A m c) (hr : Rv w 1 A m c (bc cs)) (hn : bs.length ≤ 1000000) (hm : m ≤ 1000000) (hbase : base ≤ w.heap.size)
    (h : ∀ A' n' c' w', OwB base w' (.slice A' n' c') (bs ++ cs) → Below base w w' → w.grownBy w' v.ownBlock → K (a.put o.dst (.slice A' n' c')) w') : Oper.wp Try.prog o a w K Q := by
  have hml : cs.length = m := by have := hr.len; rw [bc_len, Nat.mul_one] at this; exact this
  refine wp_appR TBY TU8 _ 1 1 u8_info Try.underlying44 rfl (by omega) (by omega) s x ho base v bs.length (bc bs) hs hown A m c (bc cs) hx hr (bc_one _) hn hm hbase ?_
  intro v3 w3 hrow hgr hbel
  have hO : OwB base w3 v3 (bs ++ cs) := by
    unfold OwB
    rw [List.length_append, hml, bc_app]
    exact hrow
  obtain ⟨A', c', e, _⟩ := own_rv hO
  subst e
  exact h _ _ _ _ hO hbel hgr
theorem shr_byte (n q : Nat) : IntKind.u8.wrap ((n : Int) / 2 ^ (8 * (q : Int)).toNat) = ((n / 2 ^ (8 * q) % 256 : Nat) : Int) := by
  have e1 : (8 * (q : Int)).toNat = 8 * q := by omega
  rw [e1, IntKind.wrap_u8]
  have e2 : (n : Int) / 2 ^ (8 * q) = ((n / 2 ^ (8 * q) : Nat) : Int) := by simp
  rw [e2]
  omega
/-- What a writer leaves alone: all but bytes and its own block. -/
def FrW (wp : Nat) (w w' : World) : Prop := w.heap.size ≤ w'.heap.size ∧ ∀ b T cs, T ≠ TU8 → b ≠ wp → w.heap[b]? = some (.cells cs T (0, 0)) → w'.heap[b]? = some (.cells cs T (0, 0))
theorem FrW.refl (wp : Nat) (w : World) : FrW wp w w := ⟨Nat.le_refl _, fun _ _ _ _ _ h => h⟩
theorem FrW.trans {wp : Nat} {w w' w'' : World} (h : FrW wp w w') (h' : FrW wp w' w'') : FrW wp w w'' := ⟨Nat.le_trans h.1 h'.1, fun b T cs hT hb e => h'.2 b T cs hT hb (h.2 b T cs hT hb e)⟩
theorem FrW.ext {wp : Nat} {w w' : World} (h : Ext w w') : FrW wp w w' := ⟨Below.size h, fun b T cs _ _ e => (Below.block h b (block_lt e)).trans e⟩
theorem FrW.set_ {wp : Nat} {w w' : World} (h : FrW wp w w') (u : Value) : FrW wp w (w'.setCell ⟨wp, 0, none⟩ u) := ⟨by simpa using h.1, fun b T cs hT hb e => (Below.heap_setCell w' ⟨wp, 0, none⟩ u b hb).trans (h.2 b T cs hT hb e)⟩
theorem FrW.grow {wp base : Nat} {w w' : World} {v : Value} {bs : List Nat} (ho : OwB base w v bs) (hg : w.grownBy w' v.ownBlock) : FrW wp w w' :=
  ⟨hg.size, fun b T cs hT _ e => (hg.block b (block_lt e) (fun e' => own_tag ho (T' := T) (Ne.symm hT) b e'.symm _ _ e)).trans e⟩
theorem FrW.blk {wp g : Nat} {w w' : World} {T : TypeId} {cs : Array Value} (h : FrW wp w w') (hb : Blk w g T cs) (hT : T ≠ TU8) (hg : g ≠ wp) : Blk w' g T cs := h.2 g T cs hT hg hb
set_option maxHeartbeats 6400000 in
set_option maxRecDepth 100000 in
theorem rnumber_any (base wp : Nat) (v : Value) (bs : List Nat) (n size : Nat) (w : World) (hb : Blk w wp TWR #[v]) (ho : OwB base w v bs) (hw : base ≤ wp) (hl : bs.length ≤ 1000) (hs : size ≤ 8) (hn : n < 9223372036854775808) :
    Calls Try.prog 100 #[.pointer (some ⟨wp, 0, none⟩), .int .i64 (n : Int), .int .i64 (size : Int)] w fun e w' => ∃ z v', e = .returned z ∧ Blk w' wp TWR #[v'] ∧ OwB base w' v' (bs ++ beB n size) ∧ Below base w w' ∧ FrW wp w w' := by
  have H0 := Lib.hid (show Blk w wp TWR #[v] ∧ OwB base w v (bs ++ (beB n size).take (size - size)) from ⟨hb, by rw [Nat.sub_self, List.take_zero, List.append_nil]; exact ho⟩)
  clear hb ho
  go_enter Try.func100, Try.ntmps100
  go_wp2
  go_loopw [6] (fun i wr => ∃ (j : Nat) (v' : Value), j ≤ size ∧ i = .int .i64 ((j : Int) - 1) ∧ Blk wr wp TWR #[v'] ∧ OwB base wr v' (bs ++ (beB n size).take (size - j)) ∧ Below base w wr ∧ FrW wp w wr) (fun i _ => (intOf i + 1).toNat)
  case atStart => exact ⟨size, v, Nat.le_refl _, rfl, H0.out.1, H0.out.2, Below.refl _ _, FrW.refl _ _⟩
  case round =>
    obtain ⟨j, v', hj, rfl, hb, ho, hx, hfw⟩ := hrel
    have HFW := Lib.hid hfw
    clear hfw
    obtain ⟨A1, c1, hv1, _⟩ := own_rv ho
    obtain ⟨n1, hn1⟩ : ∃ n1, (bs ++ (beB n size).take (size - j)).length = n1 := ⟨_, rfl⟩
    rw [hn1] at hv1
    subst hv1
    clear hn1
    have HB := Lib.hid hb
    have HO := Lib.hid ho
    have HX := Lib.hid hx
    have hsz := hb.lt
    by_cases hj0 : 1 ≤ j
    · have pj : (0 : Int) ≤ (j : Int) - 1 := by omega
      have pj2 : ¬ ((j : Int) - 1 < 0) := by omega
      obtain ⟨q, hq⟩ : ∃ q, j - 1 = q := ⟨_, rfl⟩
      have eq1 : (j : Int) - 1 = (q : Int) := by omega
      have HTK := Lib.hid (beB_take n size j hj0 hj)
      rw [hq] at HTK
      have hle8 : ((beB n size).take (size - j)).length ≤ 8 := by rw [List.length_take, beB_len]; omega
      have hlen : (bs ++ (beB n size).take (size - j)).length ≤ 1010 := by rw [List.length_append]; omega
      obtain ⟨cs, hcs⟩ : ∃ cs, bs ++ (beB n size).take (size - j) = cs := ⟨_, rfl⟩
      rw [hcs] at HO hlen
      have HCS := Lib.hid hcs
      have kc := hb.cells
      simp only [cellsAre, Nat.zero_add, Nat.reduceAdd, and_true] at kc
      have hbw : base ≤ wr.heap.size := by omega
      have w8 : IntKind.i64.wrap (8 * (q : Int)) = ((8 * q : Nat) : Int) := by rw [IntWalk.i64_in _ (by omega)]; omega
      clear hb ho hx hcs
      rw [eq1] at pj pj2 ⊢
      go_upto_region 3 with fail
      refine wp_region_brn (S := (fun _ => True)) (by kernel_rfl) (by kernel_rfl) (fun _ _ _ _ _ => ⟨fun h => h, fun h => h⟩) ?_
      intro hsel_ hQ_
      obtain ⟨wd, hwd⟩ : ∃ wd, wr.drew = wd := ⟨_, rfl⟩
      have hst : Ext wr wd := by rw [← hwd]; exact Ext.drew _
      rw [hwd]
      have hBd : wr.heap.size ≤ wd.heap.size := Ext.size hst
      have hbd : base ≤ wd.heap.size := Nat.le_trans hbw hBd
      clear hwd
      refine wpB_chunk (f := 6) (L' := #[true, true, true, true, false, true, true, true, true, true, false, false, false, false, false]) hsel_ hQ_ [(0, true, some 13, none), (1, true, some 14, none), (2, true, some 15, none), (3, true, some 16, none), (5, true, some 18, none), (6, true, some 19, none), (7, true, some 20, none), (8, true, some 21, none), (9, true, some 22, none)] _ _ _ (by kernel_rfl) trivial ?_
      repeat (first | (refine wpSeqB_pure (v := ?_) rfl ?_ ?_; rotate_left 1; (focus (intro wq_ hSq_; (try dsimp only at hSq_); go_simp; (try with_reducible rfl); done)); (try simp only [Act.put, List.setIfInBounds_toArray, List.set_cons_zero, List.set_cons_succ])) | (refine wpSeqB_pureG (v := ?_) rfl rfl ?_ ?_; rotate_left 1; (focus (intro wq_ hSq_; (try dsimp only at hSq_); go_simp; (try with_reducible rfl); done)); (try simp only [Act.put, List.setIfInBounds_toArray, List.set_cons_zero, List.set_cons_succ])) | (refine wpSeqB_off rfl rfl ?_; (try simp only [Act.put, List.setIfInBounds_toArray, List.set_cons_zero, List.set_cons_succ])) | (refine wpSeqB_offU rfl ?_; (try simp only [Act.put, List.setIfInBounds_toArray, List.set_cons_zero, List.set_cons_succ])))
      intro s0
      clear s0
      rw [shr_byte]
      obtain ⟨bv, hbv⟩ : ∃ bv, n / 2 ^ (8 * q) % 256 = bv := ⟨_, rfl⟩
      rw [hbv] at HTK ⊢
      have HNX := Lib.hid (show bs ++ (beB n size).take (size - q) = cs ++ [bv] by rw [HTK.out, ← List.append_assoc, HCS.out])
      clear hbv HTK
      have kd := (HB.out.below hst).cells
      simp only [cellsAre, Nat.zero_add, Nat.reduceAdd, and_true] at kd
      clear kc
      refine wpB_two 4 10 (by kernel_rfl) rfl rfl rfl rfl ?_ ?_
      · intro K hK
        go_simp
        refine hK.out _ _ trivial ?_
        clear hK K
        (try simp only [List.getElem_toArray, List.getElem_cons_succ, List.getElem_cons_zero, Act.put, List.setIfInBounds_toArray, List.set_cons_zero, List.set_cons_succ])
        refine wpB_chunk (f := 0) (L' := #[true, true, true, true, true, true, true, true, true, true, true, true, true, true, true]) hsel_ hQ_ [(10, false, some 23, none), (11, false, some 24, none), (12, true, some 25, none), (13, true, some 26, none), (14, false, none, none)] _ _ _ (by kernel_rfl) trivial ?_
        repeat (first | (refine wpSeqB_pure (v := ?_) rfl ?_ ?_; rotate_left 1; (focus (intro wq_ hSq_; (try dsimp only at hSq_); go_simp; (try with_reducible rfl); done)); (try simp only [Act.put, List.setIfInBounds_toArray, List.set_cons_zero, List.set_cons_succ])) | (refine wpSeqB_pureG (v := ?_) rfl rfl ?_ ?_; rotate_left 1; (focus (intro wq_ hSq_; (try dsimp only at hSq_); go_simp; (try with_reducible rfl); done)); (try simp only [Act.put, List.setIfInBounds_toArray, List.set_cons_zero, List.set_cons_succ])) | (refine wpSeqB_off rfl rfl ?_; (try simp only [Act.put, List.setIfInBounds_toArray, List.set_cons_zero, List.set_cons_succ])) | (refine wpSeqB_offU rfl ?_; (try simp only [Act.put, List.setIfInBounds_toArray, List.set_cons_zero, List.set_cons_succ])))
        first | refine wpSeqB_call rfl (fun K hK => ?_) | refine wpSeqB_callG rfl rfl (fun K hK => ?_)
        go_simp
        refine hK.out _ _ trivial ?_
        clear hK K
        (try simp only [List.getElem_toArray, List.getElem_cons_succ, List.getElem_cons_zero, Act.put, List.setIfInBounds_toArray, List.set_cons_zero, List.set_cons_succ])
        have s1 := Ext.allocR wd (.cells #[.int .u8 (bv : Int)] TU8)
        have o1 := own_below (own_below HO.out hst) s1
        have b1 := (HB.out.below hst).below s1
        have r1 := rv_lit (w := wd) TU8 1 #[.int .u8 (bv : Int)] 1 (by omega) rfl
        have s1' := bt hst s1
        first | refine wpSeqB_call rfl (fun K hK => ?_) | refine wpSeqB_callG rfl rfl (fun K hK => ?_)
        refine wp_appU _ _ (by rfl) base (.slice A1 n1 c1) cs (by rfl) o1 (some ⟨wd.heap.size, 0, none⟩) 1 1 [bv] (by rfl) r1 (by omega) (by omega) (Nat.le_trans hbd (Ext.size s1)) ?_
        intro A3 n3 c3 w3 o3 b3 g3
        have hB3 : Blk w3 wp TWR #[.slice A1 n1 c1] := (g3.block wp b1.lt (fun e => own_tag o1 (T' := TWR) (by decide) wp e.symm _ _ b1)).trans b1
        have k3 := hB3.cells
        have f3 := Blk.free hB3 0
        simp only [cellsAre, Nat.zero_add, Nat.reduceAdd, and_true] at k3
        have X3 := Lib.hid (show Below base w w3 from HX.out.trans ((Below.mono s1' hbw).trans b3))
        have HO3 := Lib.hid (And.intro hB3 o3)
        have HFW3 := Lib.hid ((HFW.out.trans (FrW.ext s1')).trans (FrW.grow (wp := wp) o1 g3))
        refine hK.out _ _ trivial ?_
        clear hK K b3 g3 o1 b1 r1 hB3 o3
        (try simp only [List.getElem_toArray, List.getElem_cons_succ, List.getElem_cons_zero, Act.put, List.setIfInBounds_toArray, List.set_cons_zero, List.set_cons_succ])
        repeat (first | (refine wpSeqB_pure (v := ?_) rfl ?_ ?_; rotate_left 1; (focus (intro wq_ hSq_; (try dsimp only at hSq_); go_simp; (try with_reducible rfl); done)); (try simp only [Act.put, List.setIfInBounds_toArray, List.set_cons_zero, List.set_cons_succ])) | (refine wpSeqB_pureG (v := ?_) rfl rfl ?_ ?_; rotate_left 1; (focus (intro wq_ hSq_; (try dsimp only at hSq_); go_simp; (try with_reducible rfl); done)); (try simp only [Act.put, List.setIfInBounds_toArray, List.set_cons_zero, List.set_cons_succ])) | (refine wpSeqB_off rfl rfl ?_; (try simp only [Act.put, List.setIfInBounds_toArray, List.set_cons_zero, List.set_cons_succ])) | (refine wpSeqB_offU rfl ?_; (try simp only [Act.put, List.setIfInBounds_toArray, List.set_cons_zero, List.set_cons_succ])))
        first | refine wpSeqB_call rfl (fun K hK => ?_) | refine wpSeqB_callG rfl rfl (fun K hK => ?_)
        go_simp
        refine hK.out _ _ trivial ?_
        clear hK K
        (try simp only [List.getElem_toArray, List.getElem_cons_succ, List.getElem_cons_zero, Act.put, List.setIfInBounds_toArray, List.set_cons_zero, List.set_cons_succ])
        intro s_
        refine wpB_end (by kernel_rfl) ?_
        clear s_
        go_wp2
        go_roundw
        case rel => exact ⟨q, _, by omega, by go_num, HO3.out.1.set_ 0 _, by rw [HNX.out]; exact own_far HO3.out.2 (p := ⟨wp, 0, none⟩) HO3.out.1 (by decide) _, X3.out.setCell hw _, HFW3.out.set_ _⟩
        case measure => simp [intOf]
      · intro K hK
        go_simp
        refine hK.out _ _ trivial ?_
        clear hK K
        (try simp only [List.getElem_toArray, List.getElem_cons_succ, List.getElem_cons_zero, Act.put, List.setIfInBounds_toArray, List.set_cons_zero, List.set_cons_succ])
        have s1 := Ext.allocR wd (.cells #[.int .u8 (bv : Int)] TU8)
        have o1 := own_below (own_below HO.out hst) s1
        have b1 := (HB.out.below hst).below s1
        have r1 := rv_lit (w := wd) TU8 1 #[.int .u8 (bv : Int)] 1 (by omega) rfl
        have s1' := bt hst s1
        have k1 := b1.cells
        simp only [cellsAre, Nat.zero_add, Nat.reduceAdd, and_true] at k1
        refine wpB_chunk (f := 0) (L' := #[true, true, true, true, true, true, true, true, true, true, true, true, true, true, true]) hsel_ hQ_ [(4, false, some 17, none), (11, false, some 24, none), (12, true, some 25, none), (13, true, some 26, none), (14, false, none, none)] _ _ _ (by kernel_rfl) trivial ?_
        repeat (first | (refine wpSeqB_pure (v := ?_) rfl ?_ ?_; rotate_left 1; (focus (intro wq_ hSq_; (try dsimp only at hSq_); go_simp; (try with_reducible rfl); done)); (try simp only [Act.put, List.setIfInBounds_toArray, List.set_cons_zero, List.set_cons_succ])) | (refine wpSeqB_pureG (v := ?_) rfl rfl ?_ ?_; rotate_left 1; (focus (intro wq_ hSq_; (try dsimp only at hSq_); go_simp; (try with_reducible rfl); done)); (try simp only [Act.put, List.setIfInBounds_toArray, List.set_cons_zero, List.set_cons_succ])) | (refine wpSeqB_off rfl rfl ?_; (try simp only [Act.put, List.setIfInBounds_toArray, List.set_cons_zero, List.set_cons_succ])) | (refine wpSeqB_offU rfl ?_; (try simp only [Act.put, List.setIfInBounds_toArray, List.set_cons_zero, List.set_cons_succ])))
        first | refine wpSeqB_call rfl (fun K hK => ?_) | refine wpSeqB_callG rfl rfl (fun K hK => ?_)
        go_simp
        refine hK.out _ _ trivial ?_
        clear hK K k1
        (try simp only [List.getElem_toArray, List.getElem_cons_succ, List.getElem_cons_zero, Act.put, List.setIfInBounds_toArray, List.set_cons_zero, List.set_cons_succ])
        first | refine wpSeqB_call rfl (fun K hK => ?_) | refine wpSeqB_callG rfl rfl (fun K hK => ?_)
        refine wp_appU _ _ (by rfl) base (.slice A1 n1 c1) cs (by rfl) o1 (some ⟨wd.heap.size, 0, none⟩) 1 1 [bv] (by rfl) r1 (by omega) (by omega) (Nat.le_trans hbd (Ext.size s1)) ?_
        intro A3 n3 c3 w3 o3 b3 g3
        have hB3 : Blk w3 wp TWR #[.slice A1 n1 c1] := (g3.block wp b1.lt (fun e => own_tag o1 (T' := TWR) (by decide) wp e.symm _ _ b1)).trans b1
        have k3 := hB3.cells
        have f3 := Blk.free hB3 0
        simp only [cellsAre, Nat.zero_add, Nat.reduceAdd, and_true] at k3
        have X3 := Lib.hid (show Below base w w3 from HX.out.trans ((Below.mono s1' hbw).trans b3))
        have HO3 := Lib.hid (And.intro hB3 o3)
        have HFW3 := Lib.hid ((HFW.out.trans (FrW.ext s1')).trans (FrW.grow (wp := wp) o1 g3))
        refine hK.out _ _ trivial ?_
        clear hK K b3 g3 o1 b1 r1 hB3 o3
        (try simp only [List.getElem_toArray, List.getElem_cons_succ, List.getElem_cons_zero, Act.put, List.setIfInBounds_toArray, List.set_cons_zero, List.set_cons_succ])
        repeat (first | (refine wpSeqB_pure (v := ?_) rfl ?_ ?_; rotate_left 1; (focus (intro wq_ hSq_; (try dsimp only at hSq_); go_simp; (try with_reducible rfl); done)); (try simp only [Act.put, List.setIfInBounds_toArray, List.set_cons_zero, List.set_cons_succ])) | (refine wpSeqB_pureG (v := ?_) rfl rfl ?_ ?_; rotate_left 1; (focus (intro wq_ hSq_; (try dsimp only at hSq_); go_simp; (try with_reducible rfl); done)); (try simp only [Act.put, List.setIfInBounds_toArray, List.set_cons_zero, List.set_cons_succ])) | (refine wpSeqB_off rfl rfl ?_; (try simp only [Act.put, List.setIfInBounds_toArray, List.set_cons_zero, List.set_cons_succ])) | (refine wpSeqB_offU rfl ?_; (try simp only [Act.put, List.setIfInBounds_toArray, List.set_cons_zero, List.set_cons_succ])))
        first | refine wpSeqB_call rfl (fun K hK => ?_) | refine wpSeqB_callG rfl rfl (fun K hK => ?_)
        go_simp
        refine hK.out _ _ trivial ?_
        clear hK K
        (try simp only [List.getElem_toArray, List.getElem_cons_succ, List.getElem_cons_zero, Act.put, List.setIfInBounds_toArray, List.set_cons_zero, List.set_cons_succ])
        intro s_
        refine wpB_end (by kernel_rfl) ?_
        clear s_
        go_wp2
        go_roundw
        case rel => exact ⟨q, _, by omega, by go_num, HO3.out.1.set_ 0 _, by rw [HNX.out]; exact own_far HO3.out.2 (p := ⟨wp, 0, none⟩) HO3.out.1 (by decide) _, X3.out.setCell hw _, HFW3.out.set_ _⟩
        case measure => simp [intOf]
    · obtain rfl : j = 0 := by omega
      have HE := Lib.hid (show bs ++ (beB n size).take (size - 0) = bs ++ beB n size by rw [Nat.sub_zero, List.take_of_length_le (by rw [beB_len]; exact Nat.le_refl _)])
      have pj : ¬ (0 : Int) ≤ ((0 : Nat) : Int) - 1 := by omega
      clear hb ho hx
      go_wp2
      go_end0
      exact ⟨⟨_, rfl⟩, _, HB.out, by rw [← HE.out]; exact HO.out, HX.out, HFW.out⟩
end Go.Proofs.Tb
