/- The reference's disk: rows of blocks under construction; an act; Sync. -/
import Derived.Test.YtfljnfdeboibhaaRqh
set_option linter.unusedVariables false
set_option linter.unusedSimpArgs false
namespace Go.Proofs.Tb
open Go.Maps Go.RowKit Go.Lib
attribute [local go_sem] cell_set_same neqMapL

/-- A row of rows in a row of its own, the inner rows anywhere. -/
def OwTe (base : Nat) (w : World) (v : Value) (bl : List (List (List Nat))) : Prop := ∃ zs, w.ownsRow base TSL 1 v bl.length zs ∧ RowsTx 0 w zs bl
theorem OwTe.td {base : Nat} {w : World} {v : Value} {bl : List (List (List Nat))} (h : OwTe base w v bl) : OwTd 0 w v bl := by
  obtain ⟨zs, h1, h2⟩ := h
  exact ⟨zs, own_lower h1 (Nat.zero_le _), h2⟩
theorem OwTe.ext {base : Nat} {w w' : World} {v : Value} {bl : List (List (List Nat))} (h : OwTe base w v bl) (x : Ext w w') : OwTe base w' v bl := by
  obtain ⟨zs, h1, h2⟩ := h
  exact ⟨zs, own_below h1 x, h2.ext x⟩
theorem OwTe.nil (base : Nat) (w : World) (h : base ≤ w.heap.size) : OwTe base (w.alloc (.cells #[] TSL)) (.slice (some ⟨w.heap.size, 0, none⟩) 0 0) [] :=
  ⟨[], own_lit TSL 1 #[] 0 h (by omega) rfl, rfl, fun i hi => absurd hi (Nat.not_lt_zero _)⟩
theorem OwTe.zero (base : Nat) (w : World) : OwTe base w (.slice none 0 0) [] :=
  ⟨[], World.ownsRow_nil _ _ _ _, rfl, fun i hi => absurd hi (Nat.not_lt_zero _)⟩
theorem OwTx.one (w : World) (b : List Nat) : OwTx 0 (w.alloc (.cells #[.string (sb b)] TST)) (.slice (some ⟨w.heap.size, 0, none⟩) 1 1) [b] := own_lit TST 1 #[.string (sb b)] 1 (Nat.zero_le _) (by omega) rfl
theorem OwTx.grown {w w' : World} {base n : Nat} {v z : Value} {zs : List Value} {l : List (List Nat)} (hz : OwTx 0 w z l) (ho : w.ownsRow base TSL 1 v n zs) (g6 : w.grownBy w' v.ownBlock) : OwTx 0 w' z l :=
  own_keep hz fun g cs _ _ hb => (grow_blk g6 ho (show TSL ≠ TST by decide) hb).trans hb.symm
theorem OwTe.push {base : Nat} {w w' : World} {v v' z : Value} {bl : List (List (List Nat))} {l : List (List Nat)} {zs : List Value} (ho : w.ownsRow base TSL 1 v bl.length zs) (hr : RowsTx 0 w zs bl) (hz : OwTx 0 w z l) (o6 : w'.ownsRow base TSL 1 v' (bl.length + 1) (zs ++ [z])) (g6 : w.grownBy w' v.ownBlock) : OwTe base w' v' (bl ++ [l]) :=
  ⟨zs ++ [z], by rw [List.length_append]; exact o6, RowsTx.snoc ⟨hr.1, fun i hi => (hr.2 i hi).grown ho g6⟩ (hz.grown ho g6)⟩
theorem RowsTx.one {base : Nat} {w : World} {v : Value} {n : Nat} {zs : List Value} (_h : w.ownsRow base TSL 1 v n zs) {bl : List (List (List Nat))} (hr : RowsTx 0 w zs bl) : ∀ u ∈ zs, u.oneCell' = true := fun u hu => by
  obtain ⟨i, hi, rfl⟩ := List.mem_iff_getElem.1 hu
  have h1 := hr.2 i (by rw [← hr.1]; exact hi)
  rw [List.getD_eq_getElem?_getD, List.getElem?_eq_getElem hi] at h1
  obtain ⟨A, c, e, _⟩ := own_rv h1
  have e2 : zs[i] = Value.slice A (bl.getD i []).length c := e
  rw [e2]
  rfl
theorem OwTd.setD {base : Nat} {w : World} {v : Value} {bl : List (List (List Nat))} (h : OwTd base w v bl) {b : Nat} {cs : Array Value} (hb : Blk w b TRD cs) (i : Nat) (u : Value) : OwTd base (w.setCell ⟨b, i, none⟩ u) v bl := by
  obtain ⟨zs, h1, h2, h3⟩ := h
  exact ⟨zs, own_far (p := ⟨b, i, none⟩) h1 hb (by decide) u, h2, fun k hk => own_far (p := ⟨b, i, none⟩) (h3 k hk) hb (by decide) u⟩
theorem OwTe.setD {base : Nat} {w : World} {v : Value} {bl : List (List (List Nat))} (h : OwTe base w v bl) {b : Nat} {cs : Array Value} (hb : Blk w b TRD cs) (i : Nat) (u : Value) : OwTe base (w.setCell ⟨b, i, none⟩ u) v bl := by
  obtain ⟨zs, h1, h2, h3⟩ := h
  exact ⟨zs, own_far (p := ⟨b, i, none⟩) h1 hb (by decide) u, h2, fun k hk => own_far (p := ⟨b, i, none⟩) (h3 k hk) hb (by decide) u⟩
/-- The contents one by one. -/
def onesB (X : List (List Nat)) : List (List (List Nat)) := X.map fun b => [b]
theorem onesB_len (X : List (List Nat)) : (onesB X).length = X.length := List.length_map _
theorem onesB_snoc {X : List (List Nat)} {j : Nat} (h : j < X.length) : onesB (X.take (j + 1)) = onesB (X.take j) ++ [[X.getD j z64]] := by
  unfold onesB
  rw [List.take_succ_eq_append_getElem h, List.map_append, List.getD_eq_getElem?_getD, List.getElem?_eq_getElem h]
  rfl
/-- An act of the reference's disk. -/
theorem zact_any (A : Option Addr) (n c : Nat) (a : Bool) (lf : Int) {left : Nat} (h : a = decide (1 ≤ left) ∧ (1 ≤ left → lf = (left : Int))) (hl : left ≤ 9223372036854775807) (w : World) :
    Calls Try.prog 72 #[rdk A n c false a lf] w (Ret (fun z _ => ∃ a' lf', z = .tuple #[rdk A n c (decide (left = 1)) a' lf', .bool (decide (left = 1))] ∧ (decide (left = 1) = false → a' = decide (1 ≤ left - 1) ∧ (1 ≤ left - 1 → lf' = ((left - 1 : Nat) : Int)))) w) := by
  obtain ⟨h1, h2⟩ := h
  rcases left with _ | _ | m
  · subst h1
    refine (zact_off A n c false lf w).mono ?_
    rintro e w' ⟨z, rfl, rfl, b⟩
    exact ⟨_, rfl, ⟨_, _, rfl, fun _ => ⟨rfl, fun h => absurd h (by omega)⟩⟩, b⟩
  · subst h1
    obtain rfl : lf = 1 := h2 (by omega)
    refine (zact_dn A n c false w).mono ?_
    rintro e w' ⟨z, rfl, rfl, b⟩
    exact ⟨_, rfl, ⟨_, _, rfl, fun h => absurd h (by decide)⟩, b⟩
  · have e1 : decide (1 ≤ m + 1 + 1) = true := decide_eq_true (by omega)
    have e2 : decide (m + 1 + 1 = 1) = false := decide_eq_false (by omega)
    have e3 : m + 1 + 1 - 1 = m + 1 := by omega
    rw [e1] at h1
    subst h1
    obtain rfl : lf = ((m + 2 : Nat) : Int) := h2 (by omega)
    rw [e2, e3]
    refine (zact_on A n c false m hl w).mono ?_
    rintro e w' ⟨z, rfl, rfl, b⟩
    exact ⟨_, rfl, ⟨_, _, rfl, fun _ => ⟨(decide_eq_true (by omega)).symm, fun _ => rfl⟩⟩, b⟩
/-- Later worlds with the disk's value in its block. -/
def SD (w : World) (H : Nat) (cs : Array Value) (W : World) : Prop := Ext w W ∧ Blk W H TRD cs
theorem SD.ext {w W W' : World} {H : Nat} {cs : Array Value} (h : SD w H cs W) (x : Ext W W') : SD w H cs W' := ⟨bt h.1 x, h.2.below x⟩
end Go.Proofs.Tb
