/- The reference's disk: how it lies in memory. -/
import Derived.Test.YtfljnfdeboibhaaSzf
set_option linter.unusedVariables false
set_option linter.unusedSimpArgs false
namespace Go.Proofs.Tb
open Go.Maps Go.RowKit Go.Lib
attribute [local go_sem] cell_set_same neqMapL

abbrev TSL : TypeId := 127
abbrev TSV : TypeId := 73
theorem str_info : (Try.prog.info? TST).map (fun i => (i.zero, i.size, i.bytes)) = some (some (.string ByteArray.empty), 1, 16) := by kernel_rfl
theorem sli_info : (Try.prog.info? TSL).map (fun i => (i.zero, i.size, i.bytes)) = some (some (.slice none 0 0), 1, 24) := by kernel_rfl
/-- A content as a string. -/
def sb (b : List Nat) : Str := strOfNums (b.map fun (x : Nat) => (x : Int))
/-- The values of a block's contents. -/
def sc (l : List (List Nat)) : List Value := l.map fun b => .string (sb b)
theorem sc_len (l : List (List Nat)) : (sc l).length = l.length := List.length_map _
theorem sc_app (a b : List (List Nat)) : sc (a ++ b) = sc a ++ sc b := List.map_append
theorem sc_one (l : List (List Nat)) : ∀ u ∈ sc l, u.oneCell' = true := fun u hu => by
  obtain ⟨b, _, rfl⟩ := List.mem_map.1 hu
  rfl
/-- A row of contents. -/
def OwTx (base : Nat) (w : World) (v : Value) (l : List (List Nat)) : Prop := w.ownsRow base TST 1 v l.length (sc l)
def nlTx : Value := .slice none 0 0
def RowsTx (base : Nat) (w : World) (zs : List Value) (bl : List (List (List Nat))) : Prop := zs.length = bl.length ∧ ∀ i, i < bl.length → OwTx base w (zs.getD i nlTx) (bl.getD i [])
/-- The rows of a disk's blocks. -/
def OwTd (base : Nat) (w : World) (v : Value) (bl : List (List (List Nat))) : Prop := ∃ zs, w.ownsRow base TSL 1 v bl.length zs ∧ RowsTx base w zs bl
theorem OwTx.chg {X : Nat → Obj → Prop} {base : Nat} {w w' : World} {v : Value} {l : List (List Nat)} (h : OwTx base w v l) (hc : Chg X w w') (hX : ∀ b cs, ¬ X b (.cells cs TST (0, 0))) : OwTx base w' v l := hc.own h fun b cs _ => hX b cs
theorem OwTd.chg {X : Nat → Obj → Prop} {base : Nat} {w w' : World} {v : Value} {bl : List (List (List Nat))} (h : OwTd base w v bl) (hc : Chg X w w') (hX : ∀ b cs, ¬ X b (.cells cs TST (0, 0))) (hX2 : ∀ b cs, ¬ X b (.cells cs TSL (0, 0))) : OwTd base w' v bl := by
  obtain ⟨zs, h1, h2, h3⟩ := h
  exact ⟨zs, hc.own h1 fun b cs _ => hX2 b cs, h2, fun i hi => (h3 i hi).chg hc hX⟩
theorem OwTd.ext {base : Nat} {w w' : World} {v : Value} {bl : List (List (List Nat))} (h : OwTd base w v bl) (hc : Ext w w') : OwTd base w' v bl := h.chg (X := fun _ _ => False) (Chg.ext hc) (fun _ _ h => h) fun _ _ h => h
theorem RowsTx.ext {base : Nat} {w w' : World} {zs : List Value} {bl : List (List (List Nat))} (h : RowsTx base w zs bl) (hc : Ext w w') : RowsTx base w' zs bl := ⟨h.1, fun i hi => own_below (h.2 i hi) hc⟩
theorem RowsTx.snoc {base : Nat} {w : World} {zs : List Value} {bl : List (List (List Nat))} (h : RowsTx base w zs bl) {z : Value} {l : List (List Nat)} (hz : OwTx base w z l) : RowsTx base w (zs ++ [z]) (bl ++ [l]) := by
  refine ⟨by rw [List.length_append, List.length_append, h.1]; rfl, fun i hi => ?_⟩
  rw [List.length_append, List.length_singleton] at hi
  have e1 : zs.length = bl.length := h.1
  by_cases hl : i < bl.length
  · rw [List.getD_eq_getElem?_getD, List.getD_eq_getElem?_getD, List.getElem?_append_left (by omega), List.getElem?_append_left hl, ← List.getD_eq_getElem?_getD, ← List.getD_eq_getElem?_getD]
    exact h.2 i hl
  · obtain rfl : i = bl.length := by omega
    rw [List.getD_eq_getElem?_getD, List.getD_eq_getElem?_getD, List.getElem?_append_right (by omega), List.getElem?_append_right (by omega), e1, Nat.sub_self]
    exact hz
end Go.Proofs.Tb
