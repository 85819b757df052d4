/- Contract of the reference for rates: three. -/
import Derived.Test.YthcialpcefhnnaaRef3
import Derived.Test.YthcialpcefhnnaaAdv
import Derived.Deep.DeepCutAuto
set_option linter.unusedVariables false
set_option linter.unusedSimpArgs false
namespace Go.Proofs.Tb
open Go.RowKit
attribute [local go_sem] cell_set_same

theorem cells4 {w : World} {g : Nat} {T : TypeId} {a b c d : Value} (h : Blk w g T #[a, b, c, d]) : ∀ w', Ext w w' → w'.cell? ⟨g, 0, none⟩ = some a ∧ w'.cell? ⟨g, 1, none⟩ = some b ∧ w'.cell? ⟨g, 2, none⟩ = some c ∧ w'.cell? ⟨g, 3, none⟩ = some d := fun w' hh => by
  have k := (h.below hh).cells
  simp only [cellsAre, Nat.zero_add, Nat.reduceAdd, and_true] at k
  exact k
/-- The shift of the line half way between the outer two readings and the one between them. -/
def thH (rs : List Rdg) (i j k : Nat) : Rat := (yq rs i - slQ rs i k * tq rs i + (yq rs j - slQ rs i k * tq rs j)) / 2

end Go.Proofs.Tb
