/- Arguments that are lists of integers. -/
import Derived.Test.YtcjddfhhofoidaaDoorLzd
set_option linter.unusedVariables false
set_option linter.unusedSimpArgs false
namespace Go.Proofs.Tb
open Go.ChangeShapes Go.WideShapes Go.ChangeAt Go.WideElems Go.RowKit

set_option maxRecDepth 100000 in
theorem open_isv {H : Type} {enc : TypeId × Value → H} {W : World} {b0 base : Nat} {r : Reach} {spare : Nat → Bool} {held : Bool} {v : Value} {d : DataW H} {p : List MemPlace}
    (hv : Value.okWide Tryd.prog W r b0 TIS v) (h : DataW.Trod enc Tryd.prog W base spare held TIS v d p) : ∃ (A : Option Addr) (n c : Nat) (xs : List Int), v = .slice A n c ∧ Il W A n c xs := by
  obtain ⟨A, n, c, rfl⟩ := okWide_slice Tryd.underlying37 hv
  obtain ⟨fuel, hf⟩ := h
  obtain ⟨A', n', c', xs, e, il⟩ := open_is hf
  simp [Value.cells] at e
  obtain ⟨rfl, rfl, rfl⟩ := e
  exact ⟨_, _, _, xs, rfl, il⟩
end Go.Proofs.Tb
