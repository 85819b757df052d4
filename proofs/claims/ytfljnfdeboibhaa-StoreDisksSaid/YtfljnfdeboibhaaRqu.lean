/- Few facts of the reopening chain, without it (StoreDisks needs no more of it). -/
import Derived.Test.YtfljnfdeboibhaaTwd
set_option linter.unusedVariables false
set_option linter.unusedSimpArgs false
namespace Go.Proofs.Tb
open Go.Maps Go.RowKit Go.Lib
attribute [local go_sem] cell_set_same neqMapL

theorem cell_obj {w : World} {p : Addr} {v : Value} (h : w.cell? p = some v) : ∃ o, w.heap[p.block]? = some o := by
  have := World.block_lt_of_cell? w _ h
  exact ⟨_, Array.getElem?_eq_getElem this⟩
theorem cell_same {w w' : World} {p : Addr} (h : w'.heap[p.block]? = w.heap[p.block]?) : w'.cell? p = w.cell? p := by
  unfold World.cell?
  rw [h]
theorem Chg.cell {X : Nat → Obj → Prop} {w w' : World} {p : Addr} {v : Value} (hc : Chg X w w') (h : w.cell? p = some v) (hX : ∀ o, ¬ X p.block o) : w'.cell? p = some v := by
  obtain ⟨o, ho⟩ := cell_obj h
  rw [cell_same ((hc.same _ o ho (hX o)).trans ho.symm)]
  exact h
theorem DW.blk {F : Nat → Prop} {w : World} {d : Nat} {bl : List (List (List Nat))} {down : Bool} {left : Nat} (h : DW F w d bl down left) : ∃ g v, Blk w d TDK #[v, .map (some g), .bool down, .int .i64 (left : Int)] := by
  obtain ⟨g, h1, _, _⟩ := h
  exact ⟨g.m, g.v, h1.dk⟩
theorem map_chg2 {X : Nat → Obj → Prop} {w w' : World} {H : Type} {P : Program} {k : TypeId} {R : Value → Option (DataW H × List MemPlace)} {b n : Nat} {D : DataW H} (h : w.ownsMap P k R b n D) (hc : Chg X w w') (hX : ∀ es c, ¬ X b (.map es c)) : w'.ownsMap P k R b n D := by
  obtain ⟨es, clock, hb, r⟩ := h
  exact ⟨es, clock, hc.same b _ hb (hX _ _), r⟩
/-- A map's block, and no other. -/
def XMp (hm : Nat) (b : Nat) (o : Obj) : Prop := b = hm ∧ ∃ es c, o = .map es c
theorem XMp.no {hm : Nat} (b : Nat) (cs : Array Value) (T : TypeId) : ¬ XMp hm b (.cells cs T (0, 0)) := fun ⟨_, _, _, h⟩ => by cases h
theorem lasts_at (bl : List (List (List Nat))) {k : Nat} (hk : k < bl.length) : (bl.getD k []).getLastD z64 = (lastsB bl).getD k z64 := by
  rw [List.getD_eq_getElem?_getD, List.getD_eq_getElem?_getD, List.getElem?_map, List.getElem?_eq_getElem hk]
  rfl
theorem ext_chg {X : Nat → Obj → Prop} {w W W' : World} (h : Ext w W) (hc : Chg X W W') (hX : ∀ b o, X b o → w.heap.size ≤ b) : Ext w W' :=
  Below.trans h (hc.below hX (Ext.size h))
set_option maxHeartbeats 3200000 in
set_option maxRecDepth 100000 in
theorem rdown_at (d m : Nat) (v : Value) (down : Bool) (left : Nat) (w : World) (h : Blk w d TDK #[v, .map (some m), .bool down, .int .i64 (left : Int)]) :
    Calls Try.prog 26 #[.pointer (some ⟨d, 0, none⟩)] w (Ret (fun z _ => z = .bool down) w) := by
  have HB := Lib.hid h
  clear h
  go_enter Try.func26, Try.ntmps26
  go_wp2_with fail
  refine (rmade_any d m v down left w HB.out).mono ?_
  rintro e w1 ⟨v1, rfl, rfl, b1⟩
  have k1 := (HB.out.below b1).cells
  simp only [cellsAre, Nat.zero_add, Nat.reduceAdd, and_true] at k1
  have X1 := Lib.hid (show Ext w w1 from b1)
  clear b1
  go_wp2_with fail
  go_returns
  exact ⟨_, rfl, rfl, X1.out⟩
/-- Bytes that came in. -/
structure ByX (w : World) (A : Option Addr) (n c : Nat) : Prop where
  ex : ∃ ks, Rv w 1 A n c (bc ks) ∧ ∀ b ∈ ks, b < 256
end Go.Proofs.Tb
