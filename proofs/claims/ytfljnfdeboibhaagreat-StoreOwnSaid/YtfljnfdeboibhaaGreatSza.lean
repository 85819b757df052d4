/- The reference's disk: act, Arm. -/
import Derived.Test.YtfljnfdeboibhaaGreatTwf
set_option linter.unusedVariables false
set_option linter.unusedSimpArgs false
namespace Go.Proofs.Tb
open Go.Maps Go.RowKit Go.Lib
attribute [local go_sem] cell_set_same neqMapL
def rdk (A : Option Addr) (n c : Nat) (down armed : Bool) (left : Int) : Value := .agg #[.slice A n c, .bool down, .bool armed, .int .i64 left]
end Go.Proofs.Tb
