/- RateWorsts, the walk: Worst returns the greatest absolute error that the reference names, or its error. -/
import Derived.Test.YthcialpcefhnnaaLawG
import Derived.Test.YthcialpcefhnnaaRate4
set_option linter.unusedVariables false
set_option linter.unusedSimpArgs false
namespace Go.Proofs.Tb
open Go.RowKit
attribute [local go_sem] cell_set_same

theorem WorstR.form {rs : List Rdg} {a b c d : Int} {v : Value} (h : WorstR rs a b c d v) : ∃ a b e : Int, v = .tuple #[.agg #[.int .i64 a, .int .i64 b], .int .i64 e] := by
  by_cases hf : WoOk rs a b c d
  · exact (h.1 hf).form
  · exact ⟨_, _, _, h.2 hf⟩

end Go.Proofs.Tb
