/- Contracts of the writer's text and done, and of sum. -/
import Derived.Test.YtfljnfdeboibhaaSti
import Derived.Test.YtfljnfdeboibhaaStk
set_option linter.unusedVariables false
set_option linter.unusedSimpArgs false
namespace Go.Proofs.Tb
open Go.RowKit
attribute [local go_sem] cell_set_same

abbrev TIN : TypeId := 3
abbrev TST : TypeId := 9
theorem strB_cells (s : Str) : bc (strB s) = Go.Lib.strCells s := by
  unfold bc strB Go.Lib.strCells
  rw [List.map_map, ByteArray.toList_eq]
  rfl
theorem wpl_appS {ops : Array Oper} {rest : List Oper} {o : Oper} {a : Act} {Q : Exit → Act → World → Prop} {w : World} (hgd : o.guard = none) (sl x : Operand)
    (ho : o.op = .call { callee := .builtin .append, args := #[sl, x], argTypes := #[TBY, TST] }) (base : Nat) (v : Value) (bs : List Nat) (hs : a.eval sl = v) (hown : OwB base w v bs) (s : Str) (hx : a.eval x = .string s)
    (hn : bs.length ≤ 1000000) (hm : s.size ≤ 1000000) (hbase : base ≤ w.heap.size)
    (h : ∀ A' n' c' w', OwB base w' (.slice A' n' c') (bs ++ strB s) → Below base w w' → w.grownBy w' v.ownBlock → wpList Try.prog ops Q rest (a.put o.dst (.slice A' n' c')) w') : wpList Try.prog ops Q (o :: rest) a w := by
  obtain ⟨i0, hi, hz0, hz1, hz2⟩ := info_parts u8_info
  refine Go.Lib.wpList_append_own_string _ hgd sl x TBY TST ho base TU8 i0 Try.underlying44 Try.underlying9 hi hz0 hz1 hz2 v bs.length (bc bs) hs hown s hx (by unfold maxLen; omega) (by omega) hbase ?_
  intro v' w' hrow hg _
  have hO : OwB base w' v' (bs ++ strB s) := by
    unfold OwB
    rw [List.length_append, strB_len, bc_app, strB_cells]
    exact hrow
  obtain ⟨A', c', e, _⟩ := own_rv hO
  subst e
  exact h _ _ _ _ hO ((Below.refl _ _).grown hg hbase (own_geE hown)) hg
theorem wp_appZ {o : Oper} {a : Act} {K : Act → World → Prop} {Q : Exit → Act → World → Prop} {w : World} (sl x : Operand)
    (ho : o.op = .call { callee := .builtin .append, args := #[sl, x], argTypes := #[TBY, TIN] }) (base : Nat) (v : Value) (bs : List Nat) (hs : a.eval sl = v) (hown : OwB base w v bs) (k : Nat) (hx : a.eval x = .int .i64 (k : Int))
    (hn : bs.length ≤ 1000000) (hm : k ≤ 1000000) (hbase : base ≤ w.heap.size)
    (h : ∀ A' n' c' w', OwB base w' (.slice A' n' c') (bs ++ List.replicate k 0) → Below base w w' → w.grownBy w' v.ownBlock → K (a.put o.dst (.slice A' n' c')) w') : Oper.wp Try.prog o a w K Q := by
  obtain ⟨i0, hi, hz0, hz1, hz2⟩ := info_parts u8_info
  obtain ⟨v3, w3, hrun, hrow, hgr, hbel⟩ := run_zeros_own (P := Try.prog) w base TBY TIN o.type TU8 i0 _ _ Try.underlying44 Try.underlying3 hi hz0 hz1 hz2 rfl rfl v bs.length (bc bs) hown k hn hm hbase
  have hO : OwB base w3 v3 (bs ++ List.replicate k 0) := by
    unfold OwB
    rw [List.length_append, List.length_replicate, bc_app]
    have e : bc (List.replicate k 0) = List.replicate k (.int .u8 0) := by unfold bc; rw [List.map_replicate]; rfl
    rw [e]
    exact hrow
  obtain ⟨A', c', e, _⟩ := own_rv hO
  subst e
  exact Go.Lib.wp_append_run w sl x TBY TIN ho v _ hs hx _ w3 hrun (h _ _ _ _ hO hbel hgr)
theorem wpl_appZ {ops : Array Oper} {rest : List Oper} {o : Oper} {a : Act} {Q : Exit → Act → World → Prop} {w : World} (hgd : o.guard = none) (sl x : Operand)
    (ho : o.op = .call { callee := .builtin .append, args := #[sl, x], argTypes := #[TBY, TIN] }) (base : Nat) (v : Value) (bs : List Nat) (hs : a.eval sl = v) (hown : OwB base w v bs) (k : Nat) (hx : a.eval x = .int .i64 (k : Int))
    (hn : bs.length ≤ 1000000) (hm : k ≤ 1000000) (hbase : base ≤ w.heap.size)
    (h : ∀ A' n' c' w', OwB base w' (.slice A' n' c') (bs ++ List.replicate k 0) → Below base w w' → w.grownBy w' v.ownBlock → wpList Try.prog ops Q rest (a.put o.dst (.slice A' n' c')) w') : wpList Try.prog ops Q (o :: rest) a w :=
  wpList_plain hgd fun _ hK => wp_appZ sl x ho base v bs hs hown k hx hn hm hbase fun A' n' c' w' h1 h2 h3 => hK _ _ (h A' n' c' w' h1 h2 h3)
/-- A writer: its block, and the row that it fills. -/
def WrW (base wp : Nat) (w : World) (bs : List Nat) : Prop := ∃ v, Blk w wp TWR #[v] ∧ OwB base w v bs
theorem WrW.form {base wp : Nat} {w : World} {bs : List Nat} (h : WrW base wp w bs) : ∃ A n c, Blk w wp TWR #[.slice A n c] ∧ OwB base w (.slice A n c) bs := by
  obtain ⟨v, h1, h2⟩ := h
  obtain ⟨A, c, e, _⟩ := own_rv h2
  subst e
  exact ⟨_, _, _, h1, h2⟩
theorem WrW.grow {base wp : Nat} {w w' : World} {bs bs' : List Nat} {A A' : Option Addr} {n c n' c' : Nat} (h1 : Blk w wp TWR #[.slice A n c]) (h2 : OwB base w (.slice A n c) bs) (ho : OwB base w' (.slice A' n' c') bs') (hg : w.grownBy w' (Value.slice A n c).ownBlock) :
    Blk w' wp TWR #[.slice A n c] ∧ WrW base wp (w'.setCell ⟨wp, 0, none⟩ (.slice A' n' c')) bs' := by
  have hB : Blk w' wp TWR #[.slice A n c] := (hg.block wp h1.lt (fun e => own_tag h2 (T' := TWR) (by decide) wp e.symm _ _ h1)).trans h1
  exact ⟨hB, _, hB.set_ 0 _, own_far ho (p := ⟨wp, 0, none⟩) hB (by decide) _⟩
set_option maxHeartbeats 6400000 in
set_option maxRecDepth 100000 in
theorem rnum_any (base wp : Nat) (bs : List Nat) (n size : Nat) (w : World) (h : WrW base wp w bs) (hw : base ≤ wp) (hl : bs.length ≤ 1000) (hs : size ≤ 8) (hn : n < 9223372036854775808) :
    Calls Try.prog 100 #[.pointer (some ⟨wp, 0, none⟩), .int .i64 (n : Int), .int .i64 (size : Int)] w fun e w' => (∃ z, e = .returned z) ∧ WrW base wp w' (bs ++ beB n size) ∧ Below base w w' ∧ FrW wp w w' := by
  obtain ⟨v, h1, h2⟩ := h
  exact (rnumber_any base wp v bs n size w h1 h2 hw hl hs hn).mono fun e w' ⟨z, v', he, h3, h4, h5, h6⟩ => ⟨⟨z, he⟩, ⟨v', h3, h4⟩, h5, h6⟩
set_option maxHeartbeats 6400000 in
set_option maxRecDepth 100000 in
theorem rtext_any (base wp : Nat) (bs : List Nat) (s : Str) (most : Nat) (w : World) (h : WrW base wp w bs) (hw : base ≤ wp) (hl : bs.length ≤ 500) (hs : s.size ≤ most) (hm : most ≤ 100) :
    Calls Try.prog 99 #[.pointer (some ⟨wp, 0, none⟩), .string s, .int .i64 (most : Int)] w fun e w' => (∃ z, e = .returned z) ∧ WrW base wp w' (bs ++ txB s most) ∧ Below base w w' ∧ FrW wp w w' := by
  have H0 := Lib.hid h
  clear h
  go_enter Try.func99, Try.ntmps99
  go_wp2_with fail
  refine (rnum_any base wp bs s.size 1 w H0.out hw (by omega) (by omega) (by omega)).mono ?_
  rintro e w1 ⟨⟨z1, rfl⟩, hw1, hb1, hf1⟩
  have HF1 := Lib.hid hf1
  clear hf1
  obtain ⟨A1, n1, c1, k1, o1⟩ := hw1.form
  have kc1 := k1.cells
  simp only [cellsAre, Nat.zero_add, Nat.reduceAdd, and_true] at kc1
  have hwl := k1.lt
  have HW1 := Lib.hid (And.intro k1 o1)
  have HB1 := Lib.hid hb1
  have hlen1 : (bs ++ beB s.size 1).length ≤ 501 := by rw [List.length_append, beB_len]; omega
  clear hw1 hb1 k1 o1
  go_upto_region 2 with (at_builtin; refine wpl_appS rfl _ _ rfl base (.slice A1 n1 c1) (bs ++ beB s.size 1) rfl HW1.out.2 s rfl (by omega) (by omega) (by omega) ?_; intro A2 n2 c2 w2 o2 b2 g2; have hgr := WrW.grow HW1.out.1 HW1.out.2 o2 g2; have kc2 := hgr.1.cells; have fc2 := Blk.free hgr.1 0; have HG := Lib.hid (And.intro hgr.2 (And.intro (HB1.out.trans b2) (HF1.out.trans (FrW.grow (wp := wp) HW1.out.2 g2)))); simp only [cellsAre, Nat.zero_add, Nat.reduceAdd, and_true] at kc2; clear hgr b2 g2 o2)
  refine wp_world (fun W => WrW base wp W (bs ++ beB s.size 1 ++ strB s) ∧ Below base w W ∧ FrW wp w W) ⟨HG.out.1, HG.out.2.1.setCell hw _, HG.out.2.2.set_ _⟩ ?_
  clear HG kc2 fc2 kc1 HW1 HB1 HF1
  rintro W3 ⟨hw3, hb3, hf3⟩
  have HF3 := Lib.hid hf3
  clear hf3
  obtain ⟨A3, n3, c3, k3, o3⟩ := hw3.form
  have kc3 := k3.cells
  simp only [cellsAre, Nat.zero_add, Nat.reduceAdd, and_true] at kc3
  have hwl3 := k3.lt
  have HW3 := Lib.hid (And.intro k3 o3)
  have HB3 := Lib.hid hb3
  have hlen3 : (bs ++ beB s.size 1 ++ strB s).length ≤ 1000 := by rw [List.length_append, strB_len]; omega
  obtain ⟨k, hk⟩ : ∃ k, most - s.size = k := ⟨_, rfl⟩
  have ek : (most : Int) - ((ByteArray.size s : Nat) : Int) = (k : Int) := by omega
  have wk : IntKind.i64.wrap ((most : Int) - ((ByteArray.size s : Nat) : Int)) = (k : Int) := by rw [ek, IntWalk.i64_in _ (by omega)]
  have HT := Lib.hid (show bs ++ beB s.size 1 ++ strB s ++ List.replicate k 0 = bs ++ txB s most by unfold txB; rw [hk]; simp only [List.append_assoc])
  clear hw3 hb3 k3 o3 ek
  go_wp2_with (at_builtin; refine wpl_appZ rfl _ _ rfl base (.slice A3 n3 c3) (bs ++ beB s.size 1 ++ strB s) rfl HW3.out.2 k rfl (by omega) (by omega) (by omega) ?_; intro A2 n2 c2 w2 o2 b2 g2; have hgr := WrW.grow HW3.out.1 HW3.out.2 o2 g2; have kc2 := hgr.1.cells; have fc2 := Blk.free hgr.1 0; have HG := Lib.hid (And.intro hgr.2 (And.intro (HB3.out.trans b2) (HF3.out.trans (FrW.grow (wp := wp) HW3.out.2 g2)))); simp only [cellsAre, Nat.zero_add, Nat.reduceAdd, and_true] at kc2; clear hgr b2 g2 o2)
  go_end0
  refine ⟨?_, ?_, ?_, ?_⟩
  · exact ⟨_, rfl⟩
  · rw [← HT.out]; exact HG.out.1
  · exact HG.out.2.1.setCell hw _
  · exact HG.out.2.2.set_ _
end Go.Proofs.Tb
