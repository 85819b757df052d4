/- Contract of the reference for rates: Least. -/
import Derived.Test.YthcialpcefhnnaaLpl
import Derived.Test.YthcialpcefhnnaaRefV
set_option linter.unusedVariables false
set_option linter.unusedSimpArgs false
namespace Go.Proofs.Tb
open Go.RowKit
attribute [local go_sem] cell_set_same

theorem ZL.held {w w' : World} {v : Value} {x y : Rat} {s : Nat} {R k : Nat} {T : TypeId} (h : ZL w v x y s) (hh : Held R k T w w') (hT : TN ≠ T) : ZL w' v x y s := by
  obtain ⟨b0, A0, n0, c0, b1, A1, n1, c1, b2, A2, n2, c2, b3, A3, n3, c3, hv, h1, h2⟩ := h
  exact ⟨b0, A0, n0, c0, b1, A1, n1, c1, b2, A2, n2, c2, b3, A3, n3, c3, hv, h1.held hh hT, h2.held hh hT⟩
/-- The eight cells of a line's variable are written. -/
theorem Blk.put8 {w : World} {g : Nat} {T : TypeId} {a b c d e f p q : Value} (h : Blk w g T #[a, b, c, d, e, f, p, q]) (x0 x1 x2 x3 x4 x5 x6 x7 : Value) :
    Blk ((((((((w.setCell ⟨g, 0, none⟩ x0).setCell ⟨g, 1, none⟩ x1).setCell ⟨g, 2, none⟩ x2).setCell ⟨g, 3, none⟩ x3).setCell ⟨g, 4, none⟩ x4).setCell ⟨g, 5, none⟩ x5).setCell ⟨g, 6, none⟩ x6).setCell ⟨g, 7, none⟩ x7) g T #[x0, x1, x2, x3, x4, x5, x6, x7] := by
  have h1 := (((((((h.set_ 0 x0).set_ 1 x1).set_ 2 x2).set_ 3 x3).set_ 4 x4).set_ 5 x5).set_ 6 x6).set_ 7 x7
  simp only [List.setIfInBounds_toArray, List.set_cons_zero, List.set_cons_succ] at h1
  exact h1
theorem Blk.put4b {w : World} {g : Nat} {T : TypeId} {a b c d e f p q : Value} (h : Blk w g T #[a, b, c, d, e, f, p, q]) (x4 x5 x6 x7 : Value) :
    Blk ((((w.setCell ⟨g, 4, none⟩ x4).setCell ⟨g, 5, none⟩ x5).setCell ⟨g, 6, none⟩ x6).setCell ⟨g, 7, none⟩ x7) g T #[a, b, c, d, x4, x5, x6, x7] := by
  have h1 := (((h.set_ 4 x4).set_ 5 x5).set_ 6 x6).set_ 7 x7
  simp only [List.setIfInBounds_toArray, List.set_cons_zero, List.set_cons_succ] at h1
  exact h1
theorem heldPut4b {w : World} {g : Nat} {T : TypeId} {a b c d e f p q : Value} (h : Blk w g T #[a, b, c, d, e, f, p, q]) (x4 x5 x6 x7 : Value) :
    Held g 8 T w ((((w.setCell ⟨g, 4, none⟩ x4).setCell ⟨g, 5, none⟩ x5).setCell ⟨g, 6, none⟩ x6).setCell ⟨g, 7, none⟩ x7) :=
  Held.set_ (Held.set_ (Held.set_ (Held.set_ h.heldS 4 x4) 5 x5) 6 x6) 7 x7
theorem heldPut8 {w : World} {g : Nat} {T : TypeId} {a b c d e f p q : Value} (h : Blk w g T #[a, b, c, d, e, f, p, q]) (x0 x1 x2 x3 x4 x5 x6 x7 : Value) :
    Held g 8 T w ((((((((w.setCell ⟨g, 0, none⟩ x0).setCell ⟨g, 1, none⟩ x1).setCell ⟨g, 2, none⟩ x2).setCell ⟨g, 3, none⟩ x3).setCell ⟨g, 4, none⟩ x4).setCell ⟨g, 5, none⟩ x5).setCell ⟨g, 6, none⟩ x6).setCell ⟨g, 7, none⟩ x7) :=
  Held.set_ (Held.set_ (Held.set_ (Held.set_ (Held.set_ (Held.set_ (Held.set_ (Held.set_ h.heldS 0 x0) 1 x1) 2 x2) 3 x3) 4 x4) 5 x5) 6 x6) 7 x7
theorem cells8 {w : World} {g : Nat} {T : TypeId} {a b c d e f p q : Value} (h : Blk w g T #[a, b, c, d, e, f, p, q]) : ∀ w', Ext w w' → w'.cell? ⟨g, 0, none⟩ = some a ∧ w'.cell? ⟨g, 1, none⟩ = some b ∧ w'.cell? ⟨g, 2, none⟩ = some c ∧ w'.cell? ⟨g, 3, none⟩ = some d ∧ w'.cell? ⟨g, 4, none⟩ = some e ∧ w'.cell? ⟨g, 5, none⟩ = some f ∧ w'.cell? ⟨g, 6, none⟩ = some p ∧ w'.cell? ⟨g, 7, none⟩ = some q := fun w' hh => by
  have k := (h.below hh).cells
  simp only [cellsAre, Nat.zero_add, Nat.reduceAdd, and_true] at k
  exact k
def Z4 : Array Value := #[.bool false, .slice none 0 0, .bool false, .slice none 0 0]
/-- The variables of Least: its results, the best line so far and its error. -/
def LS (w wr : World) (R : Nat) (x y z : Rat) : Prop := ∃ b0 A0 n0 c0 b1 A1 n1 c1 b2 A2 n2 c2 b3 A3 n3 c3 d B m e d' B' m' e',
  Blk wr w.heap.size TQL #[.bool false, .slice none 0 0, .bool false, .slice none 0 0, .bool false, .slice none 0 0, .bool false, .slice none 0 0] ∧ Blk wr (w.heap.size + 1) TQ #[.bool false, .slice none 0 0, .bool false, .slice none 0 0] ∧
  Blk wr R TQL #[.bool b0, .slice A0 n0 c0, .bool b1, .slice A1 n1 c1, .bool b2, .slice A2 n2 c2, .bool b3, .slice A3 n3 c3] ∧ Blk wr (R + 1) TQ #[.bool d, .slice B m e, .bool d', .slice B' m' e'] ∧
  ZL wr (.agg #[.bool b0, .slice A0 n0 c0, .bool b1, .slice A1 n1 c1, .bool b2, .slice A2 n2 c2, .bool b3, .slice A3 n3 c3]) x y 48 ∧ ZX wr (.agg #[.bool d, .slice B m e, .bool d', .slice B' m' e']) z 108 ∧ Below w.heap.size w wr
theorem LS.below {w wr wr' : World} {R : Nat} {x y z : Rat} (h : LS w wr R x y z) (hb : Ext wr wr') : LS w wr' R x y z := by
  obtain ⟨b0, A0, n0, c0, b1, A1, n1, c1, b2, A2, n2, c2, b3, A3, n3, c3, d, B, m, e, d', B', m', e', h1, h2, h3, h4, h5, h6, h7⟩ := h
  exact ⟨b0, A0, n0, c0, b1, A1, n1, c1, b2, A2, n2, c2, b3, A3, n3, c3, d, B, m, e, d', B', m', e', h1.below hb, h2.below hb, h3.below hb, h4.below hb, h5.below hb, h6.below hb, bt h7 hb⟩
theorem LS.bw {w wr : World} {R : Nat} {x y z : Rat} (h : LS w wr R x y z) : Below w.heap.size w wr := by
  obtain ⟨b0, A0, n0, c0, b1, A1, n1, c1, b2, A2, n2, c2, b3, A3, n3, c3, d, B, m, e, d', B', m', e', h1, h2, h3, h4, h5, h6, h7⟩ := h
  exact h7
theorem LS.lt {w wr : World} {R : Nat} {x y z : Rat} (h : LS w wr R x y z) : R + 1 < wr.heap.size := by
  obtain ⟨b0, A0, n0, c0, b1, A1, n1, c1, b2, A2, n2, c2, b3, A3, n3, c3, d, B, m, e, d', B', m', e', h1, h2, h3, h4, h5, h6, h7⟩ := h
  exact h4.lt
/-- What Least returns of valid readings. -/
def ZLR (rs : List Rdg) (v : Value) (w' : World) : Prop := ∃ x y E l q, IsLeast rs.length (tq rs) (yq rs) x y E ∧ v = .tuple #[l, q] ∧ ZL w' l x y 48 ∧ ZX w' q E 108

end Go.Proofs.Tb
