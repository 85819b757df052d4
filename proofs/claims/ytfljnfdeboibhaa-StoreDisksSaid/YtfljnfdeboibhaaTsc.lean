/- Contracts of the writer's number. (With what follows it, in one text.) -/
import Derived.Test.YtfljnfdeboibhaaTsa
import Derived.Test.YtfljnfdeboibhaaStl
import Derived.Test.YtfljnfdeboibhaaBrn
import Derived.Test.YtfljnfdeboibhaaProg
import Derived.Deep.DeepCutAuto
import Derived.Lib.AppendStr
import Derived.Lib.AppendZerosOnto
import Derived.Deep.CutBlock
set_option linter.unusedVariables false
set_option linter.unusedSimpArgs false
/- Contracts of the writer's number. -/
namespace Go.Proofs.Tb
open Go.RowKit
attribute [local go_sem] cell_set_same

abbrev TWR : TypeId := 165
abbrev TU8 : TypeId := 5
abbrev TBY : TypeId := 44
theorem u8_info : (Try.prog.info? TU8).map (fun i => (i.zero, i.size, i.bytes)) = some (some (.int .u8 0), 1, 1) := by kernel_rfl
def bc (bs : List Nat) : List Value := bs.map fun (b : Nat) => .int .u8 (b : Int)
theorem bc_len (bs : List Nat) : (bc bs).length = bs.length := by simp [bc]
theorem bc_app (a b : List Nat) : bc (a ++ b) = bc a ++ bc b := List.map_append
theorem bc_one (bs : List Nat) : ∀ u ∈ bc bs, u.oneCell' = true := fun u hu => by
  obtain ⟨g, _, rfl⟩ := List.mem_map.1 hu
  rfl
/-- A row of bytes that the call owns. -/
def OwB (base : Nat) (w : World) (v : Value) (bs : List Nat) : Prop := w.ownsRow base TU8 1 v bs.length (bc bs)
theorem beB_take (n : Nat) : ∀ (size j : Nat), 1 ≤ j → j ≤ size → (beB n size).take (size - (j - 1)) = (beB n size).take (size - j) ++ [n / 2 ^ (8 * (j - 1)) % 256]
  | 0, j, h1, h2 => by omega
  | s + 1, j, h1, h2 => by
    by_cases hj : j = s + 1
    · subst hj
      rw [show s + 1 - (s + 1 - 1) = 1 by omega, show s + 1 - (s + 1) = 0 by omega]
      simp [beB]
    · have ih := beB_take n s j h1 (by omega)
      rw [show s + 1 - (j - 1) = (s - (j - 1)) + 1 by omega, show s + 1 - j = (s - j) + 1 by omega]
      unfold beB
      rw [List.take_succ_cons, List.take_succ_cons, ih]
      rfl
theorem wp_appU {o : Oper} {a : Act} {K : Act → World → Prop} {Q : Exit → Act → World → Prop} {w : World} (s x : Operand)
    (ho : o.op = .call { callee := .builtin .append, args := #[s, x], argTypes := #[TBY, TBY] }) (base : Nat) (v : Value) (bs : List Nat) (hs : a.eval s = v) (hown : OwB base w v bs)
    (A : Option Addr) (m c : Nat) (cs : List Nat) (hx : a.eval x = .slice A m c) (hr : Rv w 1 A m c (bc cs)) (hn : bs.length ≤ 1000000) (hm : m ≤ 1000000) (hbase : base ≤ w.heap.size)
    (h : ∀ A' n' c' w', OwB base w' (.slice A' n' c') (bs ++ cs) → Below base w w' → w.grownBy w' v.ownBlock → K (a.put o.dst (.slice A' n' c')) w') : Oper.wp Try.prog o a w K Q := by
  have hml : cs.length = m := by have := hr.len; rw [bc_len, Nat.mul_one] at this; exact this
  refine wp_appR TBY TU8 _ 1 1 u8_info Try.underlying44 rfl (by omega) (by omega) s x ho base v bs.length (bc bs) hs hown A m c (bc cs) hx hr (bc_one _) hn hm hbase ?_
  intro v3 w3 hrow hgr hbel
  have hO : OwB base w3 v3 (bs ++ cs) := by
    unfold OwB
    rw [List.length_append, hml, bc_app]
    exact hrow
  obtain ⟨A', c', e, _⟩ := own_rv hO
  subst e
  exact h _ _ _ _ hO hbel hgr
theorem shr_byte (n q : Nat) : IntKind.u8.wrap ((n : Int) / 2 ^ (8 * (q : Int)).toNat) = ((n / 2 ^ (8 * q) % 256 : Nat) : Int) := by
  have e1 : (8 * (q : Int)).toNat = 8 * q := by omega
  rw [e1, IntKind.wrap_u8]
  have e2 : (n : Int) / 2 ^ (8 * q) = ((n / 2 ^ (8 * q) : Nat) : Int) := by simp
  rw [e2]
  omega
/-- What a writer leaves alone: all but bytes and its own block. -/
def FrW (wp : Nat) (w w' : World) : Prop := w.heap.size ≤ w'.heap.size ∧ ∀ b T cs, T ≠ TU8 → b ≠ wp → w.heap[b]? = some (.cells cs T (0, 0)) → w'.heap[b]? = some (.cells cs T (0, 0))
theorem FrW.refl (wp : Nat) (w : World) : FrW wp w w := ⟨Nat.le_refl _, fun _ _ _ _ _ h => h⟩
theorem FrW.trans {wp : Nat} {w w' w'' : World} (h : FrW wp w w') (h' : FrW wp w' w'') : FrW wp w w'' := ⟨Nat.le_trans h.1 h'.1, fun b T cs hT hb e => h'.2 b T cs hT hb (h.2 b T cs hT hb e)⟩
theorem FrW.ext {wp : Nat} {w w' : World} (h : Ext w w') : FrW wp w w' := ⟨Below.size h, fun b T cs _ _ e => (Below.block h b (block_lt e)).trans e⟩
theorem FrW.set_ {wp : Nat} {w w' : World} (h : FrW wp w w') (u : Value) : FrW wp w (w'.setCell ⟨wp, 0, none⟩ u) := ⟨by simpa using h.1, fun b T cs hT hb e => (Below.heap_setCell w' ⟨wp, 0, none⟩ u b hb).trans (h.2 b T cs hT hb e)⟩
theorem FrW.grow {wp base : Nat} {w w' : World} {v : Value} {bs : List Nat} (ho : OwB base w v bs) (hg : w.grownBy w' v.ownBlock) : FrW wp w w' :=
  ⟨hg.size, fun b T cs hT _ e => (hg.block b (block_lt e) (fun e' => own_tag ho (T' := T) (Ne.symm hT) b e'.symm _ _ e)).trans e⟩
theorem FrW.blk {wp g : Nat} {w w' : World} {T : TypeId} {cs : Array Value} (h : FrW wp w w') (hb : Blk w g T cs) (hT : T ≠ TU8) (hg : g ≠ wp) : Blk w' g T cs := h.2 g T cs hT hg hb
set_option maxHeartbeats 6400000 in
set_option maxRecDepth 100000 in
theorem rnumber_any (base wp : Nat) (v : Value) (bs : List Nat) (n size : Nat) (w : World) (hb : Blk w wp TWR #[v]) (ho : OwB base w v bs) (hw : base ≤ wp) (hl : bs.length ≤ 1000) (hs : size ≤ 8) (hn : n < 9223372036854775808) :
    Calls Try.prog 100 #[.pointer (some ⟨wp, 0, none⟩), .int .i64 (n : Int), .int .i64 (size : Int)] w fun e w' => ∃ z v', e = .returned z ∧ Blk w' wp TWR #[v'] ∧ OwB base w' v' (bs ++ beB n size) ∧ Below base w w' ∧ FrW wp w w' := by
  have H0 := Lib.hid (show Blk w wp TWR #[v] ∧ OwB base w v (bs ++ (beB n size).take (size - size)) from ⟨hb, by rw [Nat.sub_self, List.take_zero, List.append_nil]; exact ho⟩)
  clear hb ho
  go_enter Try.func100, Try.ntmps100
  go_wp2
  go_loopw [6] (fun i wr => ∃ (j : Nat) (v' : Value), j ≤ size ∧ i = .int .i64 ((j : Int) - 1) ∧ Blk wr wp TWR #[v'] ∧ OwB base wr v' (bs ++ (beB n size).take (size - j)) ∧ Below base w wr ∧ FrW wp w wr) (fun i _ => (intOf i + 1).toNat)
  case atStart => exact ⟨size, v, Nat.le_refl _, rfl, H0.out.1, H0.out.2, Below.refl _ _, FrW.refl _ _⟩
  case round =>
    obtain ⟨j, v', hj, rfl, hb, ho, hx, hfw⟩ := hrel
    have HFW := Lib.hid hfw
    clear hfw
    obtain ⟨A1, c1, hv1, _⟩ := own_rv ho
    obtain ⟨n1, hn1⟩ : ∃ n1, (bs ++ (beB n size).take (size - j)).length = n1 := ⟨_, rfl⟩
    rw [hn1] at hv1
    subst hv1
    clear hn1
    have HB := Lib.hid hb
    have HO := Lib.hid ho
    have HX := Lib.hid hx
    have hsz := hb.lt
    by_cases hj0 : 1 ≤ j
    · have pj : (0 : Int) ≤ (j : Int) - 1 := by omega
      have pj2 : ¬ ((j : Int) - 1 < 0) := by omega
      obtain ⟨q, hq⟩ : ∃ q, j - 1 = q := ⟨_, rfl⟩
      have eq1 : (j : Int) - 1 = (q : Int) := by omega
      have HTK := Lib.hid (beB_take n size j hj0 hj)
      rw [hq] at HTK
      have hle8 : ((beB n size).take (size - j)).length ≤ 8 := by rw [List.length_take, beB_len]; omega
      have hlen : (bs ++ (beB n size).take (size - j)).length ≤ 1010 := by rw [List.length_append]; omega
      obtain ⟨cs, hcs⟩ : ∃ cs, bs ++ (beB n size).take (size - j) = cs := ⟨_, rfl⟩
      rw [hcs] at HO hlen
      have HCS := Lib.hid hcs
      have kc := hb.cells
      simp only [cellsAre, Nat.zero_add, Nat.reduceAdd, and_true] at kc
      have hbw : base ≤ wr.heap.size := by omega
      have w8 : IntKind.i64.wrap (8 * (q : Int)) = ((8 * q : Nat) : Int) := by rw [IntWalk.i64_in _ (by omega)]; omega
      clear hb ho hx hcs
      rw [eq1] at pj pj2 ⊢
      go_upto_region 3 with fail
      refine wp_region_brn (S := (fun _ => True)) (by kernel_rfl) (by kernel_rfl) (fun _ _ _ _ _ => ⟨fun h => h, fun h => h⟩) ?_
      intro hsel_ hQ_
      obtain ⟨wd, hwd⟩ : ∃ wd, wr.drew = wd := ⟨_, rfl⟩
      have hst : Ext wr wd := by rw [← hwd]; exact Ext.drew _
      rw [hwd]
      have hBd : wr.heap.size ≤ wd.heap.size := Ext.size hst
      have hbd : base ≤ wd.heap.size := Nat.le_trans hbw hBd
      clear hwd
      refine wpB_chunk (f := 6) (L' := #[true, true, true, true, false, true, true, true, true, true, false, false, false, false, false]) hsel_ hQ_ [(0, true, some 13, none), (1, true, some 14, none), (2, true, some 15, none), (3, true, some 16, none), (5, true, some 18, none), (6, true, some 19, none), (7, true, some 20, none), (8, true, some 21, none), (9, true, some 22, none)] _ _ _ (by kernel_rfl) trivial ?_
      repeat (first | (refine wpSeqB_pure (v := ?_) rfl ?_ ?_; rotate_left 1; (focus (intro wq_ hSq_; (try dsimp only at hSq_); go_simp; (try with_reducible rfl); done)); (try simp only [Act.put, List.setIfInBounds_toArray, List.set_cons_zero, List.set_cons_succ])) | (refine wpSeqB_pureG (v := ?_) rfl rfl ?_ ?_; rotate_left 1; (focus (intro wq_ hSq_; (try dsimp only at hSq_); go_simp; (try with_reducible rfl); done)); (try simp only [Act.put, List.setIfInBounds_toArray, List.set_cons_zero, List.set_cons_succ])) | (refine wpSeqB_off rfl rfl ?_; (try simp only [Act.put, List.setIfInBounds_toArray, List.set_cons_zero, List.set_cons_succ])) | (refine wpSeqB_offU rfl ?_; (try simp only [Act.put, List.setIfInBounds_toArray, List.set_cons_zero, List.set_cons_succ])))
      intro s0
      clear s0
      rw [shr_byte]
      obtain ⟨bv, hbv⟩ : ∃ bv, n / 2 ^ (8 * q) % 256 = bv := ⟨_, rfl⟩
      rw [hbv] at HTK ⊢
      have HNX := Lib.hid (show bs ++ (beB n size).take (size - q) = cs ++ [bv] by rw [HTK.out, ← List.append_assoc, HCS.out])
      clear hbv HTK
      have kd := (HB.out.below hst).cells
      simp only [cellsAre, Nat.zero_add, Nat.reduceAdd, and_true] at kd
      clear kc
      refine wpB_two 4 10 (by kernel_rfl) rfl rfl rfl rfl ?_ ?_
      · intro K hK
        go_simp
        refine hK.out _ _ trivial ?_
        clear hK K
        (try simp only [List.getElem_toArray, List.getElem_cons_succ, List.getElem_cons_zero, Act.put, List.setIfInBounds_toArray, List.set_cons_zero, List.set_cons_succ])
        refine wpB_chunk (f := 0) (L' := #[true, true, true, true, true, true, true, true, true, true, true, true, true, true, true]) hsel_ hQ_ [(10, false, some 23, none), (11, false, some 24, none), (12, true, some 25, none), (13, true, some 26, none), (14, false, none, none)] _ _ _ (by kernel_rfl) trivial ?_
        repeat (first | (refine wpSeqB_pure (v := ?_) rfl ?_ ?_; rotate_left 1; (focus (intro wq_ hSq_; (try dsimp only at hSq_); go_simp; (try with_reducible rfl); done)); (try simp only [Act.put, List.setIfInBounds_toArray, List.set_cons_zero, List.set_cons_succ])) | (refine wpSeqB_pureG (v := ?_) rfl rfl ?_ ?_; rotate_left 1; (focus (intro wq_ hSq_; (try dsimp only at hSq_); go_simp; (try with_reducible rfl); done)); (try simp only [Act.put, List.setIfInBounds_toArray, List.set_cons_zero, List.set_cons_succ])) | (refine wpSeqB_off rfl rfl ?_; (try simp only [Act.put, List.setIfInBounds_toArray, List.set_cons_zero, List.set_cons_succ])) | (refine wpSeqB_offU rfl ?_; (try simp only [Act.put, List.setIfInBounds_toArray, List.set_cons_zero, List.set_cons_succ])))
        first | refine wpSeqB_call rfl (fun K hK => ?_) | refine wpSeqB_callG rfl rfl (fun K hK => ?_)
        go_simp
        refine hK.out _ _ trivial ?_
        clear hK K
        (try simp only [List.getElem_toArray, List.getElem_cons_succ, List.getElem_cons_zero, Act.put, List.setIfInBounds_toArray, List.set_cons_zero, List.set_cons_succ])
        have s1 := Ext.allocR wd (.cells #[.int .u8 (bv : Int)] TU8)
        have o1 := own_below (own_below HO.out hst) s1
        have b1 := (HB.out.below hst).below s1
        have r1 := rv_lit (w := wd) TU8 1 #[.int .u8 (bv : Int)] 1 (by omega) rfl
        have s1' := bt hst s1
        first | refine wpSeqB_call rfl (fun K hK => ?_) | refine wpSeqB_callG rfl rfl (fun K hK => ?_)
        refine wp_appU _ _ (by rfl) base (.slice A1 n1 c1) cs (by rfl) o1 (some ⟨wd.heap.size, 0, none⟩) 1 1 [bv] (by rfl) r1 (by omega) (by omega) (Nat.le_trans hbd (Ext.size s1)) ?_
        intro A3 n3 c3 w3 o3 b3 g3
        have hB3 : Blk w3 wp TWR #[.slice A1 n1 c1] := (g3.block wp b1.lt (fun e => own_tag o1 (T' := TWR) (by decide) wp e.symm _ _ b1)).trans b1
        have k3 := hB3.cells
        have f3 := Blk.free hB3 0
        simp only [cellsAre, Nat.zero_add, Nat.reduceAdd, and_true] at k3
        have X3 := Lib.hid (show Below base w w3 from HX.out.trans ((Below.mono s1' hbw).trans b3))
        have HO3 := Lib.hid (And.intro hB3 o3)
        have HFW3 := Lib.hid ((HFW.out.trans (FrW.ext s1')).trans (FrW.grow (wp := wp) o1 g3))
        refine hK.out _ _ trivial ?_
        clear hK K b3 g3 o1 b1 r1 hB3 o3
        (try simp only [List.getElem_toArray, List.getElem_cons_succ, List.getElem_cons_zero, Act.put, List.setIfInBounds_toArray, List.set_cons_zero, List.set_cons_succ])
        repeat (first | (refine wpSeqB_pure (v := ?_) rfl ?_ ?_; rotate_left 1; (focus (intro wq_ hSq_; (try dsimp only at hSq_); go_simp; (try with_reducible rfl); done)); (try simp only [Act.put, List.setIfInBounds_toArray, List.set_cons_zero, List.set_cons_succ])) | (refine wpSeqB_pureG (v := ?_) rfl rfl ?_ ?_; rotate_left 1; (focus (intro wq_ hSq_; (try dsimp only at hSq_); go_simp; (try with_reducible rfl); done)); (try simp only [Act.put, List.setIfInBounds_toArray, List.set_cons_zero, List.set_cons_succ])) | (refine wpSeqB_off rfl rfl ?_; (try simp only [Act.put, List.setIfInBounds_toArray, List.set_cons_zero, List.set_cons_succ])) | (refine wpSeqB_offU rfl ?_; (try simp only [Act.put, List.setIfInBounds_toArray, List.set_cons_zero, List.set_cons_succ])))
        first | refine wpSeqB_call rfl (fun K hK => ?_) | refine wpSeqB_callG rfl rfl (fun K hK => ?_)
        go_simp
        refine hK.out _ _ trivial ?_
        clear hK K
        (try simp only [List.getElem_toArray, List.getElem_cons_succ, List.getElem_cons_zero, Act.put, List.setIfInBounds_toArray, List.set_cons_zero, List.set_cons_succ])
        intro s_
        refine wpB_end (by kernel_rfl) ?_
        clear s_
        go_wp2
        go_roundw
        case rel => exact ⟨q, _, by omega, by go_num, HO3.out.1.set_ 0 _, by rw [HNX.out]; exact own_far HO3.out.2 (p := ⟨wp, 0, none⟩) HO3.out.1 (by decide) _, X3.out.setCell hw _, HFW3.out.set_ _⟩
        case measure => simp [intOf]
      · intro K hK
        go_simp
        refine hK.out _ _ trivial ?_
        clear hK K
        (try simp only [List.getElem_toArray, List.getElem_cons_succ, List.getElem_cons_zero, Act.put, List.setIfInBounds_toArray, List.set_cons_zero, List.set_cons_succ])
        have s1 := Ext.allocR wd (.cells #[.int .u8 (bv : Int)] TU8)
        have o1 := own_below (own_below HO.out hst) s1
        have b1 := (HB.out.below hst).below s1
        have r1 := rv_lit (w := wd) TU8 1 #[.int .u8 (bv : Int)] 1 (by omega) rfl
        have s1' := bt hst s1
        have k1 := b1.cells
        simp only [cellsAre, Nat.zero_add, Nat.reduceAdd, and_true] at k1
        refine wpB_chunk (f := 0) (L' := #[true, true, true, true, true, true, true, true, true, true, true, true, true, true, true]) hsel_ hQ_ [(4, false, some 17, none), (11, false, some 24, none), (12, true, some 25, none), (13, true, some 26, none), (14, false, none, none)] _ _ _ (by kernel_rfl) trivial ?_
        repeat (first | (refine wpSeqB_pure (v := ?_) rfl ?_ ?_; rotate_left 1; (focus (intro wq_ hSq_; (try dsimp only at hSq_); go_simp; (try with_reducible rfl); done)); (try simp only [Act.put, List.setIfInBounds_toArray, List.set_cons_zero, List.set_cons_succ])) | (refine wpSeqB_pureG (v := ?_) rfl rfl ?_ ?_; rotate_left 1; (focus (intro wq_ hSq_; (try dsimp only at hSq_); go_simp; (try with_reducible rfl); done)); (try simp only [Act.put, List.setIfInBounds_toArray, List.set_cons_zero, List.set_cons_succ])) | (refine wpSeqB_off rfl rfl ?_; (try simp only [Act.put, List.setIfInBounds_toArray, List.set_cons_zero, List.set_cons_succ])) | (refine wpSeqB_offU rfl ?_; (try simp only [Act.put, List.setIfInBounds_toArray, List.set_cons_zero, List.set_cons_succ])))
        first | refine wpSeqB_call rfl (fun K hK => ?_) | refine wpSeqB_callG rfl rfl (fun K hK => ?_)
        go_simp
        refine hK.out _ _ trivial ?_
        clear hK K k1
        (try simp only [List.getElem_toArray, List.getElem_cons_succ, List.getElem_cons_zero, Act.put, List.setIfInBounds_toArray, List.set_cons_zero, List.set_cons_succ])
        first | refine wpSeqB_call rfl (fun K hK => ?_) | refine wpSeqB_callG rfl rfl (fun K hK => ?_)
        refine wp_appU _ _ (by rfl) base (.slice A1 n1 c1) cs (by rfl) o1 (some ⟨wd.heap.size, 0, none⟩) 1 1 [bv] (by rfl) r1 (by omega) (by omega) (Nat.le_trans hbd (Ext.size s1)) ?_
        intro A3 n3 c3 w3 o3 b3 g3
        have hB3 : Blk w3 wp TWR #[.slice A1 n1 c1] := (g3.block wp b1.lt (fun e => own_tag o1 (T' := TWR) (by decide) wp e.symm _ _ b1)).trans b1
        have k3 := hB3.cells
        have f3 := Blk.free hB3 0
        simp only [cellsAre, Nat.zero_add, Nat.reduceAdd, and_true] at k3
        have X3 := Lib.hid (show Below base w w3 from HX.out.trans ((Below.mono s1' hbw).trans b3))
        have HO3 := Lib.hid (And.intro hB3 o3)
        have HFW3 := Lib.hid ((HFW.out.trans (FrW.ext s1')).trans (FrW.grow (wp := wp) o1 g3))
        refine hK.out _ _ trivial ?_
        clear hK K b3 g3 o1 b1 r1 hB3 o3
        (try simp only [List.getElem_toArray, List.getElem_cons_succ, List.getElem_cons_zero, Act.put, List.setIfInBounds_toArray, List.set_cons_zero, List.set_cons_succ])
        repeat (first | (refine wpSeqB_pure (v := ?_) rfl ?_ ?_; rotate_left 1; (focus (intro wq_ hSq_; (try dsimp only at hSq_); go_simp; (try with_reducible rfl); done)); (try simp only [Act.put, List.setIfInBounds_toArray, List.set_cons_zero, List.set_cons_succ])) | (refine wpSeqB_pureG (v := ?_) rfl rfl ?_ ?_; rotate_left 1; (focus (intro wq_ hSq_; (try dsimp only at hSq_); go_simp; (try with_reducible rfl); done)); (try simp only [Act.put, List.setIfInBounds_toArray, List.set_cons_zero, List.set_cons_succ])) | (refine wpSeqB_off rfl rfl ?_; (try simp only [Act.put, List.setIfInBounds_toArray, List.set_cons_zero, List.set_cons_succ])) | (refine wpSeqB_offU rfl ?_; (try simp only [Act.put, List.setIfInBounds_toArray, List.set_cons_zero, List.set_cons_succ])))
        first | refine wpSeqB_call rfl (fun K hK => ?_) | refine wpSeqB_callG rfl rfl (fun K hK => ?_)
        go_simp
        refine hK.out _ _ trivial ?_
        clear hK K
        (try simp only [List.getElem_toArray, List.getElem_cons_succ, List.getElem_cons_zero, Act.put, List.setIfInBounds_toArray, List.set_cons_zero, List.set_cons_succ])
        intro s_
        refine wpB_end (by kernel_rfl) ?_
        clear s_
        go_wp2
        go_roundw
        case rel => exact ⟨q, _, by omega, by go_num, HO3.out.1.set_ 0 _, by rw [HNX.out]; exact own_far HO3.out.2 (p := ⟨wp, 0, none⟩) HO3.out.1 (by decide) _, X3.out.setCell hw _, HFW3.out.set_ _⟩
        case measure => simp [intOf]
    · obtain rfl : j = 0 := by omega
      have HE := Lib.hid (show bs ++ (beB n size).take (size - 0) = bs ++ beB n size by rw [Nat.sub_zero, List.take_of_length_le (by rw [beB_len]; exact Nat.le_refl _)])
      have pj : ¬ (0 : Int) ≤ ((0 : Nat) : Int) - 1 := by omega
      clear hb ho hx
      go_wp2
      go_end0
      exact ⟨⟨_, rfl⟩, _, HB.out, by rw [← HE.out]; exact HO.out, HX.out, HFW.out⟩
end Go.Proofs.Tb
/- append(s, make([]byte, k)...) onto a row of bytes that the call owns, over any program. -/
namespace Go.Proofs.Tb
open Go.RowKit Go.Lib

section
variable {P : Program}
theorem zc_one (z : Value) (hz : z.cells = #[z]) (k : Nat) : (Builtin.zeroCells z.cells k).toList = List.replicate k z := by
  rw [hz]
  rw [List.eq_replicate_iff]
  constructor
  · simp [Builtin.zeroCells]
  · intro b hb
    simp [Builtin.zeroCells, Nat.mod_one] at hb
    exact hb.2.symm
theorem run_zeros_own (w : World) (base : Nat) (t tn ty e : TypeId) (i : TypeInfo) (z : Value) (kn : IntKind) (ht : P.underlying t = some (.slice e)) (htn : P.underlying tn = some (.int kn)) (hi : P.info? e = some i) (hz : i.zero = some z)
    (hsize : i.size = 1) (hby : i.bytes = 1) (hzc : z.cells = #[z]) (hz1 : z.oneCell' = true) (v : Value) (n : Nat) (xs : List Value) (hown : w.ownsRow base e 1 v n xs) (k : Nat) (hn : n ≤ 1000000) (hk : k ≤ 1000000) (hbase : base ≤ w.heap.size) :
    ∃ v' w', (Builtin.append_ #[t, tn] ty #[v, .int .i64 (k : Int)]).run P w = .ok v' w' ∧ w'.ownsRow base e 1 v' (n + k) (xs ++ List.replicate k z) ∧ w.grownBy w' v.ownBlock ∧ Below base w w' := by
  have hxl : xs.length = n := by simpa using hown.1
  have hlen : (xs ++ List.replicate k z).length = (n + k) * 1 := by rw [List.length_append, hxl, List.length_replicate, Nat.mul_one]
  have hw : IntKind.i64.wrap (k : Int) = k := by rw [IntKind.wrap_i64]; omega
  have hw0 : IntKind.i64.wrap 0 = 0 := by decide
  have hneg : ¬ ((k : Int) < 0) := by omega
  have h48 : ¬ (281474976710656 < (k : Int)) := by omega
  have grown : ∀ (old : Nat), old < n + k → ∀ (row : Option Nat),
      (w.drew.alloc (.cells (xs.toArray ++ Builtin.zeroCells z.cells k ++ Builtin.zeroCells z.cells (grownCap w (n + k) old e - (n + k))) e)).ownsRow base e 1
        (.slice (some ⟨w.heap.size, 0, none⟩) (n + k) (grownCap w (n + k) old e)) (n + k) (xs ++ List.replicate k z) ∧
      w.grownBy (w.drew.alloc (.cells (xs.toArray ++ Builtin.zeroCells z.cells k ++ Builtin.zeroCells z.cells (grownCap w (n + k) old e - (n + k))) e)) row := by
    intro old ho row
    have hge := grownCap_ge w (n + k) old e
    have hcm : grownCap w (n + k) old e ≤ maxLen := grownCap_le_maxLen w (n + k) old e (by unfold maxLen; omega)
    refine ⟨⟨hlen, .inr ⟨w.heap.size, _, _, rfl, hbase, heap_alloc_new w.drew _, hge, hcm, ?_, ?_⟩⟩, ⟨rfl, rfl, rfl, by simp, fun q hq _ => heap_alloc_old w.drew _ (by simpa using hq)⟩⟩
    · have hz1 : z.cells.size = 1 := by rw [hzc]; rfl
      simp only [Array.size_append, List.size_toArray, size_zeroCells, hz1, hxl]
      omega
    · simp only [Array.toList_append, zc_one z hzc, List.append_assoc]
      rw [← List.append_assoc, ← hlen]
      exact List.take_left
  rcases hown.2 with ⟨rfl, rfl⟩ | ⟨g, cap, cur, rfl, hbg, hg, hnc, hcm, hcs, htake⟩
  · have hx : xs = [] := List.eq_nil_of_length_eq_zero hxl
    subst hx
    by_cases hm : k = 0
    · subst hm
      refine ⟨.slice none 0 0, w, ?_, World.ownsRow_nil w base e 1, ⟨rfl, rfl, rfl, Nat.le_refl _, fun _ _ _ => rfl⟩, Below.refl _ _⟩
      simp [Builtin.append_, run_underlying ht, run_underlying htn, sizeOf, typeInfo, hi, hsize, asInt, asIntOf, hw0]
    · have hr := run_append_nil_zeros (P := P) w t tn ty e i z .i64 kn ht htn hi hz k (by omega) (by omega) (by omega) (by rw [hby]; omega)
      have hgr := grown 0 (by omega) (Value.ownBlock (.slice none 0 0))
      simp only [Nat.zero_add, List.nil_append, Array.empty_append] at hgr ⊢
      exact ⟨_, _, hr, hgr.1, hgr.2, (Below.refl _ _).grown hgr.2 hbase (fun k hk => by simp [Value.ownBlock] at hk)⟩
  · by_cases hroom : n + k ≤ cap
    · have hcs' : cur.size = cap := by simpa using hcs
      have hst := run_storeCells_at P g n e (List.replicate k z) 0 cur w hg (by simpa using by omega) (fun u hu => by rw [List.mem_replicate] at hu; rw [hu.2]; exact hz1)
      simp only [Nat.add_zero, List.length_replicate] at hst
      have hr : (Builtin.append_ #[t, tn] ty #[.slice (some ⟨g, 0, none⟩) n cap, .int .i64 (k : Int)]).run P w = .ok (.slice (some ⟨g, 0, none⟩) (n + k) cap) (w.setRow g (cur.toList.take n ++ List.replicate k z ++ cur.toList.drop (n + k)).toArray) := by
        by_cases hm : k = 0
        · subst hm
          simp only [List.replicate_zero, List.append_nil, Nat.add_zero] at hst ⊢
          simp [Builtin.append_, run_underlying ht, run_underlying htn, sizeOf, typeInfo, hi, hsize, asInt, asIntOf, hw0, hnc, Addr.add_lit, hst]
        · simp [Builtin.append_, run_underlying ht, run_underlying htn, sizeOf, typeInfo, zeroValue, hi, hz, hsize, hby, asInt, asIntOf, hw, hneg, h48, hm, hroom, Addr.add_lit, zc_one z hzc, hst]
      have hgrow : w.grownBy (w.setRow g (cur.toList.take n ++ List.replicate k z ++ cur.toList.drop (n + k)).toArray) (Value.ownBlock (.slice (some ⟨g, 0, none⟩) n cap)) :=
        ⟨rfl, rfl, rfl, by simp, fun k _ hk => setRow_other w g k _ (fun e => hk (by simp [Value.ownBlock, e]))⟩
      refine ⟨_, _, hr, ⟨hlen, .inr ⟨g, cap, _, rfl, hbg, setRow_heap w g cur _ e _ hg, hroom, hcm, ?_, ?_⟩⟩, hgrow, (Below.refl _ _).grown hgrow hbase (own_geE hown)⟩
      · simp only [List.size_toArray, List.length_append, List.length_take, List.length_drop, Array.length_toList, List.length_replicate]
        omega
      · have ht' : cur.toList.take n = xs := by simpa using htake
        rw [ht', ← hlen]
        exact List.take_left
    · have holds : ∀ j u, xs[j]? = some u → w.cell? ((⟨g, 0, none⟩ : Addr).add j) = some u := hown.cells (g := g) rfl
      have hfo := run_firstCells_some (P := P) w.drew i.size n ⟨g, 0, none⟩ n cap xs (by rw [hsize]; simpa using hxl) (by simpa using holds)
      have hr := run_append_grow_zeros (P := P) w t tn ty e i z .i64 kn ht htn hi hz (some ⟨g, 0, none⟩) n cap xs hfo k (by omega) (by omega) (by omega) (by omega) (by rw [hby]; omega) (by rw [hby]; exact growslice_fits (by omega) (by omega))
      have hgr := grown cap (by omega) (Value.ownBlock (.slice (some ⟨g, 0, none⟩) n cap))
      exact ⟨_, _, hr, hgr.1, hgr.2, (Below.refl _ _).grown hgr.2 hbase (own_geE hown)⟩
end
end Go.Proofs.Tb
/- Contracts of the writer's text and done, and of sum. -/
namespace Go.Proofs.Tb
open Go.RowKit
attribute [local go_sem] cell_set_same

abbrev TIN : TypeId := 3
abbrev TST : TypeId := 9
theorem strB_cells (s : Str) : bc (strB s) = Go.Lib.strCells s := by
  unfold bc strB Go.Lib.strCells
  rw [List.map_map, ByteArray.toList_eq]
  rfl
theorem wpl_appS {ops : Array Oper} {rest : List Oper} {o : Oper} {a : Act} {Q : Exit → Act → World → Prop} {w : World} (hgd : o.guard = none) (sl x : Operand)
    (ho : o.op = .call { callee := .builtin .append, args := #[sl, x], argTypes := #[TBY, TST] }) (base : Nat) (v : Value) (bs : List Nat) (hs : a.eval sl = v) (hown : OwB base w v bs) (s : Str) (hx : a.eval x = .string s)
    (hn : bs.length ≤ 1000000) (hm : s.size ≤ 1000000) (hbase : base ≤ w.heap.size)
    (h : ∀ A' n' c' w', OwB base w' (.slice A' n' c') (bs ++ strB s) → Below base w w' → w.grownBy w' v.ownBlock → wpList Try.prog ops Q rest (a.put o.dst (.slice A' n' c')) w') : wpList Try.prog ops Q (o :: rest) a w := by
  obtain ⟨i0, hi, hz0, hz1, hz2⟩ := info_parts u8_info
  refine Go.Lib.wpList_append_own_string _ hgd sl x TBY TST ho base TU8 i0 Try.underlying44 Try.underlying9 hi hz0 hz1 hz2 v bs.length (bc bs) hs hown s hx (by unfold maxLen; omega) (by omega) hbase ?_
  intro v' w' hrow hg _
  have hO : OwB base w' v' (bs ++ strB s) := by
    unfold OwB
    rw [List.length_append, strB_len, bc_app, strB_cells]
    exact hrow
  obtain ⟨A', c', e, _⟩ := own_rv hO
  subst e
  exact h _ _ _ _ hO ((Below.refl _ _).grown hg hbase (own_geE hown)) hg
theorem wp_appZ {o : Oper} {a : Act} {K : Act → World → Prop} {Q : Exit → Act → World → Prop} {w : World} (sl x : Operand)
    (ho : o.op = .call { callee := .builtin .append, args := #[sl, x], argTypes := #[TBY, TIN] }) (base : Nat) (v : Value) (bs : List Nat) (hs : a.eval sl = v) (hown : OwB base w v bs) (k : Nat) (hx : a.eval x = .int .i64 (k : Int))
    (hn : bs.length ≤ 1000000) (hm : k ≤ 1000000) (hbase : base ≤ w.heap.size)
    (h : ∀ A' n' c' w', OwB base w' (.slice A' n' c') (bs ++ List.replicate k 0) → Below base w w' → w.grownBy w' v.ownBlock → K (a.put o.dst (.slice A' n' c')) w') : Oper.wp Try.prog o a w K Q := by
  obtain ⟨i0, hi, hz0, hz1, hz2⟩ := info_parts u8_info
  obtain ⟨v3, w3, hrun, hrow, hgr, hbel⟩ := run_zeros_own (P := Try.prog) w base TBY TIN o.type TU8 i0 _ _ Try.underlying44 Try.underlying3 hi hz0 hz1 hz2 rfl rfl v bs.length (bc bs) hown k hn hm hbase
  have hO : OwB base w3 v3 (bs ++ List.replicate k 0) := by
    unfold OwB
    rw [List.length_append, List.length_replicate, bc_app]
    have e : bc (List.replicate k 0) = List.replicate k (.int .u8 0) := by unfold bc; rw [List.map_replicate]; rfl
    rw [e]
    exact hrow
  obtain ⟨A', c', e, _⟩ := own_rv hO
  subst e
  exact Go.Lib.wp_append_run w sl x TBY TIN ho v _ hs hx _ w3 hrun (h _ _ _ _ hO hbel hgr)
theorem wpl_appZ {ops : Array Oper} {rest : List Oper} {o : Oper} {a : Act} {Q : Exit → Act → World → Prop} {w : World} (hgd : o.guard = none) (sl x : Operand)
    (ho : o.op = .call { callee := .builtin .append, args := #[sl, x], argTypes := #[TBY, TIN] }) (base : Nat) (v : Value) (bs : List Nat) (hs : a.eval sl = v) (hown : OwB base w v bs) (k : Nat) (hx : a.eval x = .int .i64 (k : Int))
    (hn : bs.length ≤ 1000000) (hm : k ≤ 1000000) (hbase : base ≤ w.heap.size)
    (h : ∀ A' n' c' w', OwB base w' (.slice A' n' c') (bs ++ List.replicate k 0) → Below base w w' → w.grownBy w' v.ownBlock → wpList Try.prog ops Q rest (a.put o.dst (.slice A' n' c')) w') : wpList Try.prog ops Q (o :: rest) a w :=
  wpList_plain hgd fun _ hK => wp_appZ sl x ho base v bs hs hown k hx hn hm hbase fun A' n' c' w' h1 h2 h3 => hK _ _ (h A' n' c' w' h1 h2 h3)
/-- A writer: its block, and the row that it fills. -/
def WrW (base wp : Nat) (w : World) (bs : List Nat) : Prop := ∃ v, Blk w wp TWR #[v] ∧ OwB base w v bs
theorem WrW.form {base wp : Nat} {w : World} {bs : List Nat} (h : WrW base wp w bs) : ∃ A n c, Blk w wp TWR #[.slice A n c] ∧ OwB base w (.slice A n c) bs := by
  obtain ⟨v, h1, h2⟩ := h
  obtain ⟨A, c, e, _⟩ := own_rv h2
  subst e
  exact ⟨_, _, _, h1, h2⟩
theorem WrW.grow {base wp : Nat} {w w' : World} {bs bs' : List Nat} {A A' : Option Addr} {n c n' c' : Nat} (h1 : Blk w wp TWR #[.slice A n c]) (h2 : OwB base w (.slice A n c) bs) (ho : OwB base w' (.slice A' n' c') bs') (hg : w.grownBy w' (Value.slice A n c).ownBlock) :
    Blk w' wp TWR #[.slice A n c] ∧ WrW base wp (w'.setCell ⟨wp, 0, none⟩ (.slice A' n' c')) bs' := by
  have hB : Blk w' wp TWR #[.slice A n c] := (hg.block wp h1.lt (fun e => own_tag h2 (T' := TWR) (by decide) wp e.symm _ _ h1)).trans h1
  exact ⟨hB, _, hB.set_ 0 _, own_far ho (p := ⟨wp, 0, none⟩) hB (by decide) _⟩
set_option maxHeartbeats 6400000 in
set_option maxRecDepth 100000 in
theorem rnum_any (base wp : Nat) (bs : List Nat) (n size : Nat) (w : World) (h : WrW base wp w bs) (hw : base ≤ wp) (hl : bs.length ≤ 1000) (hs : size ≤ 8) (hn : n < 9223372036854775808) :
    Calls Try.prog 100 #[.pointer (some ⟨wp, 0, none⟩), .int .i64 (n : Int), .int .i64 (size : Int)] w fun e w' => (∃ z, e = .returned z) ∧ WrW base wp w' (bs ++ beB n size) ∧ Below base w w' ∧ FrW wp w w' := by
  obtain ⟨v, h1, h2⟩ := h
  exact (rnumber_any base wp v bs n size w h1 h2 hw hl hs hn).mono fun e w' ⟨z, v', he, h3, h4, h5, h6⟩ => ⟨⟨z, he⟩, ⟨v', h3, h4⟩, h5, h6⟩
set_option maxHeartbeats 6400000 in
set_option maxRecDepth 100000 in
theorem rtext_any (base wp : Nat) (bs : List Nat) (s : Str) (most : Nat) (w : World) (h : WrW base wp w bs) (hw : base ≤ wp) (hl : bs.length ≤ 500) (hs : s.size ≤ most) (hm : most ≤ 100) :
    Calls Try.prog 99 #[.pointer (some ⟨wp, 0, none⟩), .string s, .int .i64 (most : Int)] w fun e w' => (∃ z, e = .returned z) ∧ WrW base wp w' (bs ++ txB s most) ∧ Below base w w' ∧ FrW wp w w' := by
  have H0 := Lib.hid h
  clear h
  go_enter Try.func99, Try.ntmps99
  go_wp2_with fail
  refine (rnum_any base wp bs s.size 1 w H0.out hw (by omega) (by omega) (by omega)).mono ?_
  rintro e w1 ⟨⟨z1, rfl⟩, hw1, hb1, hf1⟩
  have HF1 := Lib.hid hf1
  clear hf1
  obtain ⟨A1, n1, c1, k1, o1⟩ := hw1.form
  have kc1 := k1.cells
  simp only [cellsAre, Nat.zero_add, Nat.reduceAdd, and_true] at kc1
  have hwl := k1.lt
  have HW1 := Lib.hid (And.intro k1 o1)
  have HB1 := Lib.hid hb1
  have hlen1 : (bs ++ beB s.size 1).length ≤ 501 := by rw [List.length_append, beB_len]; omega
  clear hw1 hb1 k1 o1
  go_upto_region 2 with (at_builtin; refine wpl_appS rfl _ _ rfl base (.slice A1 n1 c1) (bs ++ beB s.size 1) rfl HW1.out.2 s rfl (by omega) (by omega) (by omega) ?_; intro A2 n2 c2 w2 o2 b2 g2; have hgr := WrW.grow HW1.out.1 HW1.out.2 o2 g2; have kc2 := hgr.1.cells; have fc2 := Blk.free hgr.1 0; have HG := Lib.hid (And.intro hgr.2 (And.intro (HB1.out.trans b2) (HF1.out.trans (FrW.grow (wp := wp) HW1.out.2 g2)))); simp only [cellsAre, Nat.zero_add, Nat.reduceAdd, and_true] at kc2; clear hgr b2 g2 o2)
  refine wp_world (fun W => WrW base wp W (bs ++ beB s.size 1 ++ strB s) ∧ Below base w W ∧ FrW wp w W) ⟨HG.out.1, HG.out.2.1.setCell hw _, HG.out.2.2.set_ _⟩ ?_
  clear HG kc2 fc2 kc1 HW1 HB1 HF1
  rintro W3 ⟨hw3, hb3, hf3⟩
  have HF3 := Lib.hid hf3
  clear hf3
  obtain ⟨A3, n3, c3, k3, o3⟩ := hw3.form
  have kc3 := k3.cells
  simp only [cellsAre, Nat.zero_add, Nat.reduceAdd, and_true] at kc3
  have hwl3 := k3.lt
  have HW3 := Lib.hid (And.intro k3 o3)
  have HB3 := Lib.hid hb3
  have hlen3 : (bs ++ beB s.size 1 ++ strB s).length ≤ 1000 := by rw [List.length_append, strB_len]; omega
  obtain ⟨k, hk⟩ : ∃ k, most - s.size = k := ⟨_, rfl⟩
  have ek : (most : Int) - ((ByteArray.size s : Nat) : Int) = (k : Int) := by omega
  have wk : IntKind.i64.wrap ((most : Int) - ((ByteArray.size s : Nat) : Int)) = (k : Int) := by rw [ek, IntWalk.i64_in _ (by omega)]
  have HT := Lib.hid (show bs ++ beB s.size 1 ++ strB s ++ List.replicate k 0 = bs ++ txB s most by unfold txB; rw [hk]; simp only [List.append_assoc])
  clear hw3 hb3 k3 o3 ek
  go_wp2_with (at_builtin; refine wpl_appZ rfl _ _ rfl base (.slice A3 n3 c3) (bs ++ beB s.size 1 ++ strB s) rfl HW3.out.2 k rfl (by omega) (by omega) (by omega) ?_; intro A2 n2 c2 w2 o2 b2 g2; have hgr := WrW.grow HW3.out.1 HW3.out.2 o2 g2; have kc2 := hgr.1.cells; have fc2 := Blk.free hgr.1 0; have HG := Lib.hid (And.intro hgr.2 (And.intro (HB3.out.trans b2) (HF3.out.trans (FrW.grow (wp := wp) HW3.out.2 g2)))); simp only [cellsAre, Nat.zero_add, Nat.reduceAdd, and_true] at kc2; clear hgr b2 g2 o2)
  go_end0
  refine ⟨?_, ?_, ?_, ?_⟩
  · exact ⟨_, rfl⟩
  · rw [← HT.out]; exact HG.out.1
  · exact HG.out.2.1.setCell hw _
  · exact HG.out.2.2.set_ _
end Go.Proofs.Tb
/- Contracts of sum and of the writer's done. -/
namespace Go.Proofs.Tb
open Go.RowKit
attribute [local go_sem] cell_set_same

theorem u32_or (x y : Nat) (hx : x < 4294967296) (hy : y < 4294967296) : bits .or .u32 (x : Int) (y : Int) = ((x ||| y : Nat) : Int) := by
  have e : bits .or .u32 (x : Int) (y : Int) = IntKind.u32.wrap ((BitVec.ofInt 32 (x : Int) ||| BitVec.ofInt 32 (y : Int)).toNat : Int) := rfl
  have h1 : (BitVec.ofInt 32 (x : Int) ||| BitVec.ofInt 32 (y : Int)).toNat = x ||| y := by
    rw [BitVec.ofInt_natCast, BitVec.ofInt_natCast, BitVec.toNat_or, BitVec.toNat_ofNat, BitVec.toNat_ofNat, Nat.mod_eq_of_lt (by omega), Nat.mod_eq_of_lt (by omega)]
  have h2 : x ||| y < 4294967296 := Nat.or_lt_two_pow (n := 32) hx hy
  rw [e, h1]
  show ((x ||| y : Nat) : Int) % (2 : Int) ^ 32 = _
  omega
theorem rot5_lt (x : Nat) (hx : x < 4294967296) : rot5 x < 4294967296 := by
  unfold rot5
  exact Nat.or_lt_two_pow (n := 32) (Nat.mod_lt _ (by decide)) (by show x / 134217728 < 2 ^ 32; omega)
set_option maxHeartbeats 6400000 in
set_option maxRecDepth 100000 in
theorem rrot_any (x : Nat) (hx : x < 4294967296) (w : World) : Calls Try.prog 108 #[.int .u32 (x : Int), .int .i64 5] w (Ret (fun v _ => v = .int .u32 (rot5 x : Int)) w) := by
  have h5 : bits .and .u64 5 31 = 5 := by decide
  have hor : bits .or .u32 ((x : Int) * 32 % 4294967296) ((x : Int) / 134217728) = (rot5 x : Int) := by
    have h := u32_or (x * 32 % 4294967296) (x / 134217728) (by omega) (by omega)
    have e1 : ((x * 32 % 4294967296 : Nat) : Int) = (x : Int) * 32 % 4294967296 := by omega
    have e2 : ((x / 134217728 : Nat) : Int) = (x : Int) / 134217728 := by omega
    rw [e1, e2] at h
    exact h
  have HO := Lib.hid hor
  clear hor
  go_enter Try.func108, Try.ntmps108
  go_wp2
  go_returns
  exact ⟨_, rfl, by rw [← HO.out]; rfl, Below.refl _ _⟩
set_option maxHeartbeats 6400000 in
set_option maxRecDepth 100000 in
theorem rsum_any (A : Option Addr) (n c : Nat) (bs : List Nat) (w : World) (h : Rv w 1 A n c (bc bs)) (hn : n ≤ 1000) (hb : ∀ b ∈ bs, b < 256) :
    Calls Try.prog 102 #[.slice A n c] w (Ret (fun v _ => v = .int .i64 (sumB bs : Int)) w) := by
  have hl : bs.length = n := by have := h.len; rw [bc_len, Nat.mul_one] at this; exact this
  have hle := h.le
  have hcap := h.cap
  have HL := Lib.hid hl
  have H := Lib.hid h
  have HB := Lib.hid hb
  have s0 : IntKind.u32.wrap ((n : Int) + 1) = (sumK bs 0 : Int) := by rw [sumK_zero, hl, IntKind.wrap_u32]; omega
  have w0 : IntKind.u32.wrap (n : Int) = (n : Int) := by rw [IntKind.wrap_u32]; omega
  clear h hb hl
  go_enter Try.func102, Try.ntmps102
  go_wp2
  go_loopw [3, 12] (fun s i wr => ∃ k : Nat, k ≤ n ∧ i = .int .i64 (k : Int) ∧ s = .int .u32 (sumK bs k : Int) ∧ Ext w wr) (fun _ i _ => n - (intOf i).toNat)
  case atStart => exact ⟨0, by omega, rfl, rfl, Ext.refl _⟩
  case round =>
    clear s0
    obtain ⟨k, hk, rfl, rfl, hx⟩ := hrel
    have HX := Lib.hid hx
    have hsl := sumK_lt bs k
    by_cases hkn : k < n
    · have pk : (k : Int) < (n : Int) := by omega
      obtain ⟨b, o, rfl, hc⟩ := (H.out.below hx).at_ (by omega)
      have hkl : k < bs.length := by rw [HL.out]; exact hkn
      obtain ⟨y, hy⟩ : ∃ y, bs.getD k 0 = y := ⟨_, rfl⟩
      have ck := hc k (.int .u8 (y : Int)) (by unfold bc; rw [List.getElem?_map, List.getElem?_eq_getElem hkl, ← hy]; simp [List.getD, hkl])
      have hyl : y < 256 := HB.out y (by rw [← hy, List.getD_eq_getElem?_getD, List.getElem?_eq_getElem hkl]; exact List.getElem_mem hkl)
      have HN := Lib.hid (sumK_succ hkl)
      rw [hy] at HN
      obtain ⟨x, hxx⟩ : ∃ x, sumK bs k = x := ⟨_, rfl⟩
      rw [hxx] at HN hsl ⊢
      have hr5 := rot5_lt x hsl
      obtain ⟨q, hq⟩ : ∃ q, rot5 x = q := ⟨_, rfl⟩
      have HN2 := Lib.hid (show (sumK bs (k + 1) : Int) = (((q * 31 % 4294967296 + y) % 4294967296 + 7) % 4294967296 : Nat) by rw [HN.out]; unfold sumS; rw [hq])
      have HQ := Lib.hid hq
      rw [hq] at hr5
      have wq : IntKind.u32.wrap ((q : Int) * 31) = ((q * 31 % 4294967296 : Nat) : Int) := by rw [IntKind.wrap_u32]; omega
      have wy : IntKind.u32.wrap (y : Int) = (y : Int) := by rw [IntKind.wrap_u32]; omega
      obtain ⟨q1, hq1⟩ : ∃ q1, q * 31 % 4294967296 = q1 := ⟨_, rfl⟩
      rw [hq1] at wq HN2
      have wq2 : IntKind.u32.wrap ((q1 : Int) + (y : Int)) = (((q1 + y) % 4294967296 : Nat) : Int) := by rw [IntKind.wrap_u32]; omega
      obtain ⟨q2, hq2⟩ : ∃ q2, (q1 + y) % 4294967296 = q2 := ⟨_, rfl⟩
      rw [hq2] at wq2 HN2
      have wq3 : IntKind.u32.wrap ((q2 : Int) + 7) = (((q2 + 7) % 4294967296 : Nat) : Int) := by rw [IntKind.wrap_u32]; omega
      obtain ⟨q3, hq3⟩ : ∃ q3, (q2 + 7) % 4294967296 = q3 := ⟨_, rfl⟩
      rw [hq3] at wq3 HN2
      clear hc hx hxx hq hq1 hq2 hq3 hy
      go_wp2_with fail
      refine (rrot_any x hsl wr).mono ?_
      rintro e w1 ⟨z1, rfl, rfl, b1⟩
      rw [HQ.out]
      have X1 := Lib.hid (bt HX.out b1)
      clear b1 ck
      go_wp2
      go_roundw
      case rel => exact ⟨k + 1, by omega, by go_num, by rw [HN2.out], X1.out⟩
      case measure => simp [intOf]; omega
    · obtain rfl : k = n := by omega
      have HE := Lib.hid (show sumK bs k = sumB bs by rw [← sumK_end, HL.out])
      have wE : IntKind.i64.wrap (sumK bs k : Int) = (sumK bs k : Int) := IntWalk.i64_in _ (by omega)
      clear hx
      go_wp2
      go_returns
      exact ⟨_, rfl, by rw [← HE.out]; rfl, HX.out⟩
set_option maxHeartbeats 6400000 in
set_option maxRecDepth 100000 in
theorem rdone_any (base wp : Nat) (bs : List Nat) (w : World) (h : WrW base wp w bs) (hw : base ≤ wp) (hl : bs.length ≤ 60) (hb : ∀ b ∈ bs, b < 256) :
    Calls Try.prog 101 #[.pointer (some ⟨wp, 0, none⟩)] w fun e w' => ∃ A c, e = .returned (.slice A 64 c) ∧ OwB base w' (.slice A 64 c) (blkB bs) ∧ Below base w w' := by
  obtain ⟨A1, n1, c1, k1, o1⟩ := h.form
  have hwl := k1.lt
  have kc := k1.cells
  simp only [cellsAre, Nat.zero_add, Nat.reduceAdd, and_true] at kc
  have hn1 : bs.length = n1 := o1.1 |> fun h' => by
    obtain ⟨A, c, e, _⟩ := own_rv o1
    injection e with _ e2 _
    exact e2.symm
  have HO := Lib.hid (And.intro k1 o1)
  obtain ⟨k, hk⟩ : ∃ k, 60 - n1 = k := ⟨_, rfl⟩
  have wk : IntKind.i64.wrap (60 - (n1 : Int)) = (k : Int) := by rw [IntWalk.i64_in _ (by omega)]; omega
  have HE := Lib.hid (show bs ++ List.replicate k 0 = endB bs by unfold endB; rw [hn1, hk])
  have hst0 : Ext w w.drew := Ext.drew _
  have hEl := endB_len hl
  have hEb := Lib.hid (show ∀ b ∈ endB bs, b < 256 from fun b hm => by
    unfold endB at hm
    rcases List.mem_append.1 hm with hm | hm
    · exact hb b hm
    · rw [List.mem_replicate] at hm; omega)
  clear h k1 o1 hb
  go_enter Try.func101, Try.ntmps101
  go_upto_region 1 with fail
  go_cut [] (fun wx => WrW base wp wx (endB bs) ∧ Below base w wx)
  case first =>
    refine wp_region_brn (S := (fun _ => True)) (by kernel_rfl) (by kernel_rfl) (fun _ _ _ _ _ => ⟨fun h => h, fun h => h⟩) ?_
    intro hsel_ hQ_
    obtain ⟨wd, hwd⟩ : ∃ wd, w.drew = wd := ⟨_, rfl⟩
    rw [hwd] at hst0 ⊢
    have HD := Lib.hid (And.intro (HO.out.1.below hst0) (own_below HO.out.2 hst0))
    have kd := HD.out.1.cells
    simp only [cellsAre, Nat.zero_add, Nat.reduceAdd, and_true] at kd
    have hbd : base ≤ wd.heap.size := by have := Ext.size hst0; omega
    have hbw : base ≤ w.heap.size := by omega
    clear hwd kc
    refine wpB_chunk (f := 8) (L' := #[true, true, true, true, false, true, true, true, false, false, false, false, false, false, false]) hsel_ hQ_ [(0, true, some 3, none), (1, true, some 4, none), (2, true, some 5, none), (3, true, some 6, none), (5, true, some 8, none), (6, true, some 9, none), (7, true, some 10, none)] _ _ _ (by kernel_rfl) trivial ?_
    repeat (first | (refine wpSeqB_pure (v := ?_) rfl ?_ ?_; rotate_left 1; (focus (intro wq_ hSq_; (try dsimp only at hSq_); go_simp; (try with_reducible rfl); done)); (try simp only [Act.put, List.setIfInBounds_toArray, List.set_cons_zero, List.set_cons_succ])) | (refine wpSeqB_pureG (v := ?_) rfl rfl ?_ ?_; rotate_left 1; (focus (intro wq_ hSq_; (try dsimp only at hSq_); go_simp; (try with_reducible rfl); done)); (try simp only [Act.put, List.setIfInBounds_toArray, List.set_cons_zero, List.set_cons_succ])) | (refine wpSeqB_off rfl rfl ?_; (try simp only [Act.put, List.setIfInBounds_toArray, List.set_cons_zero, List.set_cons_succ])) | (refine wpSeqB_offU rfl ?_; (try simp only [Act.put, List.setIfInBounds_toArray, List.set_cons_zero, List.set_cons_succ])))
    intro s0
    clear s0
    refine wpB_two 4 8 (by kernel_rfl) rfl rfl rfl rfl ?_ ?_
    · intro K hK
      go_simp
      refine hK.out _ _ trivial ?_
      clear hK K
      (try simp only [List.getElem_toArray, List.getElem_cons_succ, List.getElem_cons_zero, Act.put, List.setIfInBounds_toArray, List.set_cons_zero, List.set_cons_succ])
      refine wpB_chunk (f := 0) (L' := #[true, true, true, true, true, true, true, true, true, true, true, true, true, true, true]) hsel_ hQ_ [(8, false, some 11, none), (9, true, some 12, none), (10, true, some 13, none), (11, false, some 14, none), (12, true, some 15, none), (13, true, some 16, none), (14, false, none, none)] _ _ _ (by kernel_rfl) trivial ?_
      repeat (first | (refine wpSeqB_pure (v := ?_) rfl ?_ ?_; rotate_left 1; (focus (intro wq_ hSq_; (try dsimp only at hSq_); go_simp; (try with_reducible rfl); done)); (try simp only [Act.put, List.setIfInBounds_toArray, List.set_cons_zero, List.set_cons_succ])) | (refine wpSeqB_pureG (v := ?_) rfl rfl ?_ ?_; rotate_left 1; (focus (intro wq_ hSq_; (try dsimp only at hSq_); go_simp; (try with_reducible rfl); done)); (try simp only [Act.put, List.setIfInBounds_toArray, List.set_cons_zero, List.set_cons_succ])) | (refine wpSeqB_off rfl rfl ?_; (try simp only [Act.put, List.setIfInBounds_toArray, List.set_cons_zero, List.set_cons_succ])) | (refine wpSeqB_offU rfl ?_; (try simp only [Act.put, List.setIfInBounds_toArray, List.set_cons_zero, List.set_cons_succ])))
      first | refine wpSeqB_call rfl (fun K hK => ?_) | refine wpSeqB_callG rfl rfl (fun K hK => ?_)
      go_simp
      refine hK.out _ _ trivial ?_
      clear hK K
      (try simp only [List.getElem_toArray, List.getElem_cons_succ, List.getElem_cons_zero, Act.put, List.setIfInBounds_toArray, List.set_cons_zero, List.set_cons_succ])
      repeat (first | (refine wpSeqB_pure (v := ?_) rfl ?_ ?_; rotate_left 1; (focus (intro wq_ hSq_; (try dsimp only at hSq_); go_simp; (try with_reducible rfl); done)); (try simp only [Act.put, List.setIfInBounds_toArray, List.set_cons_zero, List.set_cons_succ])) | (refine wpSeqB_pureG (v := ?_) rfl rfl ?_ ?_; rotate_left 1; (focus (intro wq_ hSq_; (try dsimp only at hSq_); go_simp; (try with_reducible rfl); done)); (try simp only [Act.put, List.setIfInBounds_toArray, List.set_cons_zero, List.set_cons_succ])) | (refine wpSeqB_off rfl rfl ?_; (try simp only [Act.put, List.setIfInBounds_toArray, List.set_cons_zero, List.set_cons_succ])) | (refine wpSeqB_offU rfl ?_; (try simp only [Act.put, List.setIfInBounds_toArray, List.set_cons_zero, List.set_cons_succ])))
      first | refine wpSeqB_call rfl (fun K hK => ?_) | refine wpSeqB_callG rfl rfl (fun K hK => ?_)
      refine wp_appZ _ _ (by rfl) base (.slice A1 n1 c1) bs (by rfl) HD.out.2 k (by rfl) (by omega) (by omega) hbd ?_
      intro A2 n2 c2 w2 o2 b2 g2
      have hgr := WrW.grow HD.out.1 HD.out.2 o2 g2
      have kc2 := hgr.1.cells
      have fc2 := Blk.free hgr.1 0
      have HG := Lib.hid (And.intro hgr.2 ((Below.mono hst0 hbw).trans b2))
      simp only [cellsAre, Nat.zero_add, Nat.reduceAdd, and_true] at kc2
      refine hK.out _ _ trivial ?_
      clear hK K hgr b2 g2 o2
      (try simp only [List.getElem_toArray, List.getElem_cons_succ, List.getElem_cons_zero, Act.put, List.setIfInBounds_toArray, List.set_cons_zero, List.set_cons_succ])
      repeat (first | (refine wpSeqB_pure (v := ?_) rfl ?_ ?_; rotate_left 1; (focus (intro wq_ hSq_; (try dsimp only at hSq_); go_simp; (try with_reducible rfl); done)); (try simp only [Act.put, List.setIfInBounds_toArray, List.set_cons_zero, List.set_cons_succ])) | (refine wpSeqB_pureG (v := ?_) rfl rfl ?_ ?_; rotate_left 1; (focus (intro wq_ hSq_; (try dsimp only at hSq_); go_simp; (try with_reducible rfl); done)); (try simp only [Act.put, List.setIfInBounds_toArray, List.set_cons_zero, List.set_cons_succ])) | (refine wpSeqB_off rfl rfl ?_; (try simp only [Act.put, List.setIfInBounds_toArray, List.set_cons_zero, List.set_cons_succ])) | (refine wpSeqB_offU rfl ?_; (try simp only [Act.put, List.setIfInBounds_toArray, List.set_cons_zero, List.set_cons_succ])))
      first | refine wpSeqB_call rfl (fun K hK => ?_) | refine wpSeqB_callG rfl rfl (fun K hK => ?_)
      go_simp
      refine hK.out _ _ trivial ?_
      clear hK K
      (try simp only [List.getElem_toArray, List.getElem_cons_succ, List.getElem_cons_zero, Act.put, List.setIfInBounds_toArray, List.set_cons_zero, List.set_cons_succ])
      intro s_
      refine wpB_end (by kernel_rfl) ?_
      go_wp2_with fail
      go_meet
      exact ⟨by rw [← HE.out]; exact HG.out.1, HG.out.2.setCell hw _⟩
    · intro K hK
      go_simp
      refine hK.out _ _ trivial ?_
      clear hK K
      (try simp only [List.getElem_toArray, List.getElem_cons_succ, List.getElem_cons_zero, Act.put, List.setIfInBounds_toArray, List.set_cons_zero, List.set_cons_succ])
      refine wpB_chunk (f := 0) (L' := #[true, true, true, true, true, true, true, true, true, true, true, true, true, true, true]) hsel_ hQ_ [(9, true, some 12, none), (10, true, some 13, none), (4, false, some 7, none), (11, false, some 14, none), (12, true, some 15, none), (13, true, some 16, none), (14, false, none, none)] _ _ _ (by kernel_rfl) trivial ?_
      repeat (first | (refine wpSeqB_pure (v := ?_) rfl ?_ ?_; rotate_left 1; (focus (intro wq_ hSq_; (try dsimp only at hSq_); go_simp; (try with_reducible rfl); done)); (try simp only [Act.put, List.setIfInBounds_toArray, List.set_cons_zero, List.set_cons_succ])) | (refine wpSeqB_pureG (v := ?_) rfl rfl ?_ ?_; rotate_left 1; (focus (intro wq_ hSq_; (try dsimp only at hSq_); go_simp; (try with_reducible rfl); done)); (try simp only [Act.put, List.setIfInBounds_toArray, List.set_cons_zero, List.set_cons_succ])) | (refine wpSeqB_off rfl rfl ?_; (try simp only [Act.put, List.setIfInBounds_toArray, List.set_cons_zero, List.set_cons_succ])) | (refine wpSeqB_offU rfl ?_; (try simp only [Act.put, List.setIfInBounds_toArray, List.set_cons_zero, List.set_cons_succ])))
      first | refine wpSeqB_call rfl (fun K hK => ?_) | refine wpSeqB_callG rfl rfl (fun K hK => ?_)
      go_simp
      refine hK.out _ _ trivial ?_
      clear hK K
      (try simp only [List.getElem_toArray, List.getElem_cons_succ, List.getElem_cons_zero, Act.put, List.setIfInBounds_toArray, List.set_cons_zero, List.set_cons_succ])
      first | refine wpSeqB_call rfl (fun K hK => ?_) | refine wpSeqB_callG rfl rfl (fun K hK => ?_)
      refine wp_appZ _ _ (by rfl) base (.slice A1 n1 c1) bs (by rfl) HD.out.2 k (by rfl) (by omega) (by omega) hbd ?_
      intro A2 n2 c2 w2 o2 b2 g2
      have hgr := WrW.grow HD.out.1 HD.out.2 o2 g2
      have kc2 := hgr.1.cells
      have fc2 := Blk.free hgr.1 0
      have HG := Lib.hid (And.intro hgr.2 ((Below.mono hst0 hbw).trans b2))
      simp only [cellsAre, Nat.zero_add, Nat.reduceAdd, and_true] at kc2
      refine hK.out _ _ trivial ?_
      clear hK K hgr b2 g2 o2
      (try simp only [List.getElem_toArray, List.getElem_cons_succ, List.getElem_cons_zero, Act.put, List.setIfInBounds_toArray, List.set_cons_zero, List.set_cons_succ])
      repeat (first | (refine wpSeqB_pure (v := ?_) rfl ?_ ?_; rotate_left 1; (focus (intro wq_ hSq_; (try dsimp only at hSq_); go_simp; (try with_reducible rfl); done)); (try simp only [Act.put, List.setIfInBounds_toArray, List.set_cons_zero, List.set_cons_succ])) | (refine wpSeqB_pureG (v := ?_) rfl rfl ?_ ?_; rotate_left 1; (focus (intro wq_ hSq_; (try dsimp only at hSq_); go_simp; (try with_reducible rfl); done)); (try simp only [Act.put, List.setIfInBounds_toArray, List.set_cons_zero, List.set_cons_succ])) | (refine wpSeqB_off rfl rfl ?_; (try simp only [Act.put, List.setIfInBounds_toArray, List.set_cons_zero, List.set_cons_succ])) | (refine wpSeqB_offU rfl ?_; (try simp only [Act.put, List.setIfInBounds_toArray, List.set_cons_zero, List.set_cons_succ])))
      first | refine wpSeqB_call rfl (fun K hK => ?_) | refine wpSeqB_callG rfl rfl (fun K hK => ?_)
      go_simp
      refine hK.out _ _ trivial ?_
      clear hK K
      (try simp only [List.getElem_toArray, List.getElem_cons_succ, List.getElem_cons_zero, Act.put, List.setIfInBounds_toArray, List.set_cons_zero, List.set_cons_succ])
      intro s_
      refine wpB_end (by kernel_rfl) ?_
      go_wp2_with fail
      go_meet
      exact ⟨by rw [← HE.out]; exact HG.out.1, HG.out.2.setCell hw _⟩
  case rest =>
    obtain ⟨hw2, hb2⟩ := hcut
    obtain ⟨A2, n2, c2, k2, o2⟩ := hw2.form
    have kc2 := k2.cells
    simp only [cellsAre, Nat.zero_add, Nat.reduceAdd, and_true] at kc2
    obtain ⟨A2', c2', e2, r2⟩ := own_rv o2
    injection e2 with f1 f2 f3
    subst f1 f3
    have HR := Lib.hid r2
    rw [← f2] at HR
    obtain rfl : n2 = 60 := by rw [f2]; exact hEl
    have HW2 := Lib.hid hw2
    have HB2 := Lib.hid hb2
    have r2le := HR.out.le
    have r2cap := HR.out.cap
    clear kc hw2 hb2 k2 o2 r2 f2
    go_wp2_with fail
    refine (rsum_any A2 60 c2 (endB bs) wc HR.out (by omega) hEb.out).mono ?_
    rintro e w3 ⟨z3, rfl, rfl, b3⟩
    obtain ⟨S, hS⟩ : ∃ S, sumB (endB bs) = S := ⟨_, rfl⟩
    have hSl := sumB_lt (endB bs)
    rw [hS] at hSl ⊢
    have HS := Lib.hid hS
    have HW3 := Lib.hid (show WrW base wp w3 (endB bs) from by
      obtain ⟨v, h1, h2⟩ := HW2.out
      exact ⟨v, h1.below b3, own_below h2 b3⟩)
    have HB3 := Lib.hid (show Below base w w3 from HB2.out.trans (Below.mono b3 (by
      have := HB2.out.size
      omega)))
    clear b3 hS kc2
    go_wp2_with fail
    refine (rnum_any base wp (endB bs) S 4 w3 HW3.out hw (by omega) (by omega) (by omega)).mono ?_
    rintro e w4 ⟨⟨z4, rfl⟩, hw4, hb4, _⟩
    obtain ⟨A4, n4, c4, k4, o4⟩ := hw4.form
    have kc4 := k4.cells
    simp only [cellsAre, Nat.zero_add, Nat.reduceAdd, and_true] at kc4
    have hBB : endB bs ++ beB S 4 = blkB bs := by unfold blkB; rw [HS.out]
    rw [hBB] at o4
    have hn4 : n4 = 64 := by
      obtain ⟨A', c', e', _⟩ := own_rv o4
      injection e' with _ e2 _
      rw [e2, blkB_len hl]
    subst hn4
    have HZ := Lib.hid (And.intro o4 (HB3.out.trans hb4))
    clear hw4 hb4 k4 o4 hBB
    go_wp2
    go_returns
    exact ⟨A4, c4, rfl, HZ.out.1, HZ.out.2⟩
end Go.Proofs.Tb
