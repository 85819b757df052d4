/- Arguments that are arrays of three integers. -/
import Derived.Test.YtcjddfhhofoidaaDoorLzd
set_option linter.unusedVariables false
set_option linter.unusedSimpArgs false
namespace Go.Proofs.Tb
open Go.ChangeShapes Go.WideShapes Go.ChangeAt Go.WideElems Go.RowKit

set_option maxRecDepth 100000 in
theorem open_arr3 {H : Type} {enc : TypeId × Value → H} {W : World} {b0 base : Nat} {r : Reach} {spare : Nat → Bool} {held : Bool} {v : Value} {d : DataW H} {p : List MemPlace}
    (hv : Value.okWide Tryd.prog W r b0 77 v) (h : DataW.Trod enc Tryd.prog W base spare held 77 v d p) : ∃ x0 x1 x2 : Int, v = .agg #[.int .i64 x0, .int .i64 x1, .int .i64 x2] := by
  unfold Value.okWide at hv
  rw [Tryd.underlying77] at hv
  obtain ⟨cs, rfl, hs, _⟩ := hv
  obtain ⟨fuel, hf⟩ := h
  obtain ⟨xs, m, _, _, _, _, hi⟩ := DataW.trod_array Tryd.underlying77 hf
  have hs3 : cs.size = 3 := hs
  have hc1 : Tryd.prog.cellsOf 3 = 1 := by kernel_rfl
  have hone : ∀ i, i < 3 → ∃ z : Int, cs[i]? = some (.int .i64 z) := fun i hi3 => by
    have h1 := hi i hi3
    rw [hc1] at h1
    have hl : i < xs.length := by
      rename_i hxl _
      omega
    rw [List.getElem?_eq_getElem hl] at h1
    obtain ⟨z, hz, _⟩ := DataW.trod_int Tryd.underlying3 h1
    refine ⟨z, ?_⟩
    have h2 := congrArg (fun l => l[0]?) hz
    simp [Value.cells, List.getElem?_take, List.getElem?_drop] at h2
    simpa using h2
  obtain ⟨a, ha⟩ := hone 0 (by omega)
  obtain ⟨b, hb⟩ := hone 1 (by omega)
  obtain ⟨c, hc⟩ := hone 2 (by omega)
  refine ⟨a, b, c, ?_⟩
  congr 1
  apply Array.ext
  · rw [hs3]; rfl
  · intro i h1 h2
    rw [hs3] at h1
    obtain rfl | rfl | rfl : i = 0 ∨ i = 1 ∨ i = 2 := by omega
    · rw [Array.getElem?_eq_getElem (by omega)] at ha; simpa using ha
    · rw [Array.getElem?_eq_getElem (by omega)] at hb; simpa using hb
    · rw [Array.getElem?_eq_getElem (by omega)] at hc; simpa using hc
end Go.Proofs.Tb
