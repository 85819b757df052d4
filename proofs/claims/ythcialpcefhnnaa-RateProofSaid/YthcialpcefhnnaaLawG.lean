/- RateSlopes, the walk: Slope returns the slope that the reference names, or ErrArg. -/
import Derived.Test.YthcialpcefhnnaaLaw1
import Derived.Test.YthcialpcefhnnaaLaw2
import Derived.Test.YthcialpcefhnnaaRate4
import Derived.Test.YthcialpcefhnnaaRef3
set_option linter.unusedVariables false
set_option linter.unusedSimpArgs false
namespace Go.Proofs.Tb
open Go.RowKit
attribute [local go_sem] cell_set_same

theorem FracQ.form {x : Rat} {v : Value} (h : FracQ x v) : ∃ a b e : Int, v = .tuple #[.agg #[.int .i64 a, .int .i64 b], .int .i64 e] := by
  by_cases hf : fitQ x
  · exact ⟨_, _, _, h.1 hf⟩
  · exact ⟨_, _, _, h.2 hf⟩
theorem FracQ.det {x : Rat} {v v' : Value} (h : FracQ x v) (h' : FracQ x v') : v = v' := by
  by_cases hf : fitQ x
  · rw [h.1 hf, h'.1 hf]
  · rw [h.2 hf, h'.2 hf]
theorem SlopeR.form {rs : List Rdg} {i j : Int} {v : Value} (h : SlopeR rs i j v) : ∃ a b e : Int, v = .tuple #[.agg #[.int .i64 a, .int .i64 b], .int .i64 e] := by
  by_cases hf : SlOk rs i j
  · exact (h.1 hf).form
  · exact ⟨_, _, _, h.2 hf⟩
end Go.Proofs.Tb
