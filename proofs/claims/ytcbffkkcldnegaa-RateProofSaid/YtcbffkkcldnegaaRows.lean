/-
  No cell of these rows narrows 'for every input' (looked for: loops, veiled, ifaces, maps, wideKeys, modest, calm, conditions, laid).
  DERIVED. THE GIVEN ROWS OF THIS SEAT. 12 by the template 'for every input the law returns true; each argument reads behind the call as it read before'; 0 by the template 'total and deterministic' (their statements: YtcbffkkcldnegaaTotals.lean).
  GIVEN WITH THE SEED: the statements are not yours to turn. If you find one false, say at which input.
  Laid BY PROGRAM, IN A SANDBOX (cutbox-rows.mjs): the forced cells as the released guide's own fill.sh prints them over the translation 88c83023e0fb76fc… (all of the seat's roots in one cut). By AI agents, Wed Nov 11 2026. No macro, syntax, notation, axiom, sorry.
-/
import Derived.Test.YtcbffkkcldnegaaChecked
import GoSem.Claim
import GoSem.ClaimJoined
import GoSem.ClaimMapViews
import Derived.JoinedTies
import Derived.KernelRfl
namespace Go.Proofs.Ytcbffkkcldnegaa
/- THE CELL 'sum', in the pinned program and in every row, IS THE sha256 OF THE DUMP (.gsa) THAT YtcbffkkcldnegaaProg.lean LOADS. Nothing in Lean hashes anything: it is a label: what it is worth is what the hold of that sum in a sandbox is worth. -/
noncomputable def Try.pinned : Pinned := { name := "ytcbffkkcldnegaa", sum := "88c83023e0fb76fc221afee562ba6a0864e2d7e1875ec913882c6313120a81de", checked := Try.checked }
namespace Rows
def none {H : Type} : Left H := { results := [], args := [] }

/-- 'tourbillonlaw03.RateSums': WHATEVER THE INPUT: true; the input reads as it did. -/
def rateSumsSpec : ChangeSpec := { name := "rateSums", fn := fun _ => fun
  | [d1, d2] => { results := [.lit (.bool true)], args := [d1, d2] }
  | _ => none }
def rateSumsRow : OpenClaim := { program := "ytcbffkkcldnegaa", sum := "88c83023e0fb76fc221afee562ba6a0864e2d7e1875ec913882c6313120a81de", func := "tourbillon/tourbillonlaw03.RateSums", spec := "rateSums", apart := false }
def RateSumsSaid : Prop := rateSumsRow.holds Try.pinned (OpenSpec.ofChange rateSumsSpec)

/-- ITS FALSE NEIGHBOUR: 'it returns false'. Refute it at one input. -/
def rateSumsWrong : ChangeSpec := { name := "rateSums", fn := fun _ => fun
  | [d1, d2] => { results := [.lit (.bool false)], args := [d1, d2] }
  | _ => none }
def RateSumsWrongFalsely : Prop := rateSumsRow.holds Try.pinned (OpenSpec.ofChange rateSumsWrong)

/-- 'tourbillonlaw03.RateTurns': WHATEVER THE INPUT: true; the input reads as it did. -/
def rateTurnsSpec : ChangeSpec := { name := "rateTurns", fn := fun _ => fun
  | [d] => { results := [.lit (.bool true)], args := [d] }
  | _ => none }
def rateTurnsRow : OpenClaim := { program := "ytcbffkkcldnegaa", sum := "88c83023e0fb76fc221afee562ba6a0864e2d7e1875ec913882c6313120a81de", func := "tourbillon/tourbillonlaw03.RateTurns", spec := "rateTurns", apart := false }
def RateTurnsSaid : Prop := rateTurnsRow.holds Try.pinned (OpenSpec.ofChange rateTurnsSpec)

/-- ITS FALSE NEIGHBOUR: 'it returns false'. Refute it at one input. -/
def rateTurnsWrong : ChangeSpec := { name := "rateTurns", fn := fun _ => fun
  | [d] => { results := [.lit (.bool false)], args := [d] }
  | _ => none }
def RateTurnsWrongFalsely : Prop := rateTurnsRow.holds Try.pinned (OpenSpec.ofChange rateTurnsWrong)

/-- 'tourbillonlaw03.RateSlopes': WHATEVER THE INPUT: true; the input reads as it did. -/
def rateSlopesSpec : ChangeSpec := { name := "rateSlopes", fn := fun _ => fun
  | [d1, d2, d3] => { results := [.lit (.bool true)], args := [d1, d2, d3] }
  | _ => none }
def rateSlopesRow : OpenClaim := { program := "ytcbffkkcldnegaa", sum := "88c83023e0fb76fc221afee562ba6a0864e2d7e1875ec913882c6313120a81de", func := "tourbillon/tourbillonlaw03.RateSlopes", spec := "rateSlopes", apart := false }
def RateSlopesSaid : Prop := rateSlopesRow.holds Try.pinned (OpenSpec.ofChange rateSlopesSpec)

/-- ITS FALSE NEIGHBOUR: 'it returns false'. Refute it at one input. -/
def rateSlopesWrong : ChangeSpec := { name := "rateSlopes", fn := fun _ => fun
  | [d1, d2, d3] => { results := [.lit (.bool false)], args := [d1, d2, d3] }
  | _ => none }
def RateSlopesWrongFalsely : Prop := rateSlopesRow.holds Try.pinned (OpenSpec.ofChange rateSlopesWrong)

/-- 'tourbillonlaw03.RateLeasts': WHATEVER THE INPUT: true; the input reads as it did. -/
def rateLeastsSpec : ChangeSpec := { name := "rateLeasts", fn := fun _ => fun
  | [d] => { results := [.lit (.bool true)], args := [d] }
  | _ => none }
def rateLeastsRow : OpenClaim := { program := "ytcbffkkcldnegaa", sum := "88c83023e0fb76fc221afee562ba6a0864e2d7e1875ec913882c6313120a81de", func := "tourbillon/tourbillonlaw03.RateLeasts", spec := "rateLeasts", apart := false }
def RateLeastsSaid : Prop := rateLeastsRow.holds Try.pinned (OpenSpec.ofChange rateLeastsSpec)

/-- ITS FALSE NEIGHBOUR: 'it returns false'. Refute it at one input. -/
def rateLeastsWrong : ChangeSpec := { name := "rateLeasts", fn := fun _ => fun
  | [d] => { results := [.lit (.bool false)], args := [d] }
  | _ => none }
def RateLeastsWrongFalsely : Prop := rateLeastsRow.holds Try.pinned (OpenSpec.ofChange rateLeastsWrong)

/-- 'tourbillonlaw03.RateProof': WHATEVER THE INPUT: true; the input reads as it did. -/
def rateProofSpec : ChangeSpec := { name := "rateProof", fn := fun _ => fun
  | [d] => { results := [.lit (.bool true)], args := [d] }
  | _ => none }
def rateProofRow : OpenClaim := { program := "ytcbffkkcldnegaa", sum := "88c83023e0fb76fc221afee562ba6a0864e2d7e1875ec913882c6313120a81de", func := "tourbillon/tourbillonlaw03.RateProof", spec := "rateProof", apart := false }
def RateProofSaid : Prop := rateProofRow.holds Try.pinned (OpenSpec.ofChange rateProofSpec)

/-- ITS FALSE NEIGHBOUR: 'it returns false'. Refute it at one input. -/
def rateProofWrong : ChangeSpec := { name := "rateProof", fn := fun _ => fun
  | [d] => { results := [.lit (.bool false)], args := [d] }
  | _ => none }
def RateProofWrongFalsely : Prop := rateProofRow.holds Try.pinned (OpenSpec.ofChange rateProofWrong)

/-- 'tourbillonlaw03.RateHulls': WHATEVER THE INPUT: true; the input reads as it did. -/
def rateHullsSpec : ChangeSpec := { name := "rateHulls", fn := fun _ => fun
  | [d] => { results := [.lit (.bool true)], args := [d] }
  | _ => none }
def rateHullsRow : OpenClaim := { program := "ytcbffkkcldnegaa", sum := "88c83023e0fb76fc221afee562ba6a0864e2d7e1875ec913882c6313120a81de", func := "tourbillon/tourbillonlaw03.RateHulls", spec := "rateHulls", apart := false }
def RateHullsSaid : Prop := rateHullsRow.holds Try.pinned (OpenSpec.ofChange rateHullsSpec)

/-- ITS FALSE NEIGHBOUR: 'it returns false'. Refute it at one input. -/
def rateHullsWrong : ChangeSpec := { name := "rateHulls", fn := fun _ => fun
  | [d] => { results := [.lit (.bool false)], args := [d] }
  | _ => none }
def RateHullsWrongFalsely : Prop := rateHullsRow.holds Try.pinned (OpenSpec.ofChange rateHullsWrong)

/-- 'tourbillonlaw03.RateOuter': WHATEVER THE INPUT: true; the input reads as it did. -/
def rateOuterSpec : ChangeSpec := { name := "rateOuter", fn := fun _ => fun
  | [d] => { results := [.lit (.bool true)], args := [d] }
  | _ => none }
def rateOuterRow : OpenClaim := { program := "ytcbffkkcldnegaa", sum := "88c83023e0fb76fc221afee562ba6a0864e2d7e1875ec913882c6313120a81de", func := "tourbillon/tourbillonlaw03.RateOuter", spec := "rateOuter", apart := false }
def RateOuterSaid : Prop := rateOuterRow.holds Try.pinned (OpenSpec.ofChange rateOuterSpec)

/-- ITS FALSE NEIGHBOUR: 'it returns false'. Refute it at one input. -/
def rateOuterWrong : ChangeSpec := { name := "rateOuter", fn := fun _ => fun
  | [d] => { results := [.lit (.bool false)], args := [d] }
  | _ => none }
def RateOuterWrongFalsely : Prop := rateOuterRow.holds Try.pinned (OpenSpec.ofChange rateOuterWrong)

/-- 'tourbillonlaw03.RateWorsts': WHATEVER THE INPUT: true; the input reads as it did. -/
def rateWorstsSpec : ChangeSpec := { name := "rateWorsts", fn := fun _ => fun
  | [d1, d2] => { results := [.lit (.bool true)], args := [d1, d2] }
  | _ => none }
def rateWorstsRow : OpenClaim := { program := "ytcbffkkcldnegaa", sum := "88c83023e0fb76fc221afee562ba6a0864e2d7e1875ec913882c6313120a81de", func := "tourbillon/tourbillonlaw03.RateWorsts", spec := "rateWorsts", apart := false }
def RateWorstsSaid : Prop := rateWorstsRow.holds Try.pinned (OpenSpec.ofChange rateWorstsSpec)

/-- ITS FALSE NEIGHBOUR: 'it returns false'. Refute it at one input. -/
def rateWorstsWrong : ChangeSpec := { name := "rateWorsts", fn := fun _ => fun
  | [d1, d2] => { results := [.lit (.bool false)], args := [d1, d2] }
  | _ => none }
def RateWorstsWrongFalsely : Prop := rateWorstsRow.holds Try.pinned (OpenSpec.ofChange rateWorstsWrong)

/-- 'tourbillonlaw03.RateBest': WHATEVER THE INPUT: true; the input reads as it did. -/
def rateBestSpec : ChangeSpec := { name := "rateBest", fn := fun _ => fun
  | [d1, d2] => { results := [.lit (.bool true)], args := [d1, d2] }
  | _ => none }
def rateBestRow : OpenClaim := { program := "ytcbffkkcldnegaa", sum := "88c83023e0fb76fc221afee562ba6a0864e2d7e1875ec913882c6313120a81de", func := "tourbillon/tourbillonlaw03.RateBest", spec := "rateBest", apart := false }
def RateBestSaid : Prop := rateBestRow.holds Try.pinned (OpenSpec.ofChange rateBestSpec)

/-- ITS FALSE NEIGHBOUR: 'it returns false'. Refute it at one input. -/
def rateBestWrong : ChangeSpec := { name := "rateBest", fn := fun _ => fun
  | [d1, d2] => { results := [.lit (.bool false)], args := [d1, d2] }
  | _ => none }
def RateBestWrongFalsely : Prop := rateBestRow.holds Try.pinned (OpenSpec.ofChange rateBestWrong)

/-- 'tourbillonlaw03.RateRuns': WHATEVER THE INPUT: true; the input reads as it did. -/
def rateRunsSpec : ChangeSpec := { name := "rateRuns", fn := fun _ => fun
  | [d1, d2] => { results := [.lit (.bool true)], args := [d1, d2] }
  | _ => none }
def rateRunsRow : OpenClaim := { program := "ytcbffkkcldnegaa", sum := "88c83023e0fb76fc221afee562ba6a0864e2d7e1875ec913882c6313120a81de", func := "tourbillon/tourbillonlaw03.RateRuns", spec := "rateRuns", apart := false }
def RateRunsSaid : Prop := rateRunsRow.holds Try.pinned (OpenSpec.ofChange rateRunsSpec)

/-- ITS FALSE NEIGHBOUR: 'it returns false'. Refute it at one input. -/
def rateRunsWrong : ChangeSpec := { name := "rateRuns", fn := fun _ => fun
  | [d1, d2] => { results := [.lit (.bool false)], args := [d1, d2] }
  | _ => none }
def RateRunsWrongFalsely : Prop := rateRunsRow.holds Try.pinned (OpenSpec.ofChange rateRunsWrong)

/-- 'tourbillonlaw03.RateParts': WHATEVER THE INPUT: true; the input reads as it did. -/
def ratePartsSpec : ChangeSpec := { name := "rateParts", fn := fun _ => fun
  | [d1, d2] => { results := [.lit (.bool true)], args := [d1, d2] }
  | _ => none }
def ratePartsRow : OpenClaim := { program := "ytcbffkkcldnegaa", sum := "88c83023e0fb76fc221afee562ba6a0864e2d7e1875ec913882c6313120a81de", func := "tourbillon/tourbillonlaw03.RateParts", spec := "rateParts", apart := false }
def RatePartsSaid : Prop := ratePartsRow.holds Try.pinned (OpenSpec.ofChange ratePartsSpec)

/-- ITS FALSE NEIGHBOUR: 'it returns false'. Refute it at one input. -/
def ratePartsWrong : ChangeSpec := { name := "rateParts", fn := fun _ => fun
  | [d1, d2] => { results := [.lit (.bool false)], args := [d1, d2] }
  | _ => none }
def RatePartsWrongFalsely : Prop := ratePartsRow.holds Try.pinned (OpenSpec.ofChange ratePartsWrong)

/-- 'tourbillontop.TopFewest': WHATEVER THE INPUT: true; the input reads as it did. -/
def topFewestSpec : ChangeSpec := { name := "topFewest", fn := fun _ => fun
  | [d1, d2, d3] => { results := [.lit (.bool true)], args := [d1, d2, d3] }
  | _ => none }
def topFewestRow : OpenClaim := { program := "ytcbffkkcldnegaa", sum := "88c83023e0fb76fc221afee562ba6a0864e2d7e1875ec913882c6313120a81de", func := "tourbillon/tourbillontop.TopFewest", spec := "topFewest", apart := false }
def TopFewestSaid : Prop := topFewestRow.holds Try.pinned (OpenSpec.ofChange topFewestSpec)

/-- ITS FALSE NEIGHBOUR: 'it returns false'. Refute it at one input. -/
def topFewestWrong : ChangeSpec := { name := "topFewest", fn := fun _ => fun
  | [d1, d2, d3] => { results := [.lit (.bool false)], args := [d1, d2, d3] }
  | _ => none }
def TopFewestWrongFalsely : Prop := topFewestRow.holds Try.pinned (OpenSpec.ofChange topFewestWrong)

/- THE SECOND FORM. 'bulk': how many values and letters a reading holds, each counted each time it is reached (what is shared counts as often as it is met; a slice's spare places count too). A statement '..UptoSaid' is the law's where the arguments, and the package variables that the reading takes, are together of bulk at most 1048576: NARROWER than '..Said'. Prove '..Said' where nothing that the law and all that it calls make is longer than what came in: it says more and counts as full. Else prove '..UptoSaid'. A law counts once. -/
mutual
def uptoBulk {H : Type} : DataW H → Nat
  | .lit (.string bytes) => bytes.length + 1
  | .lit _ => 1
  | .nil => 1
  | .ptr d => uptoBulk d + 1
  | .slice elems spare => uptoBulkAll elems + uptoBulkAll spare + 1
  | .agg parts => uptoBulkAll parts + 1
  | .iface _ d => uptoBulk d + 1
  | .map entries => uptoBulkEntries entries + 1
  | .held _ => 1
def uptoBulkAll {H : Type} : List (DataW H) → Nat
  | [] => 0
  | d :: r => uptoBulk d + uptoBulkAll r
def uptoBulkEntries {H : Type} : List (Lit × DataW H) → Nat
  | [] => 0
  | x :: r => uptoBulkEntry x + uptoBulkEntries r
def uptoBulkEntry {H : Type} : Lit × DataW H → Nat
  | (.string bytes, d) => bytes.length + uptoBulk d + 1
  | (_, d) => uptoBulk d + 1
 end
def uptoSmall : (H : Type) → List (DataW H) → Bool := fun _ ds => decide (uptoBulkAll ds ≤ 1048576)
def OpenSpec.upto (s : _root_.Go.ChangeSpec) : _root_.Go.OpenSpec := { _root_.Go.OpenSpec.ofChange s with cond := some uptoSmall }

/-- 'tourbillonlaw03.RateSums', WHERE WHAT IT READS IS OF BULK AT MOST 1048576: true; the input reads as it did. -/
def rateSumsUptoRow : OpenClaim := { program := "ytcbffkkcldnegaa", sum := "88c83023e0fb76fc221afee562ba6a0864e2d7e1875ec913882c6313120a81de", func := "tourbillon/tourbillonlaw03.RateSums", spec := "rateSums", apart := false, narrowed := true }
def RateSumsUptoSaid : Prop := rateSumsUptoRow.holds Try.pinned (OpenSpec.upto rateSumsSpec)

/-- 'tourbillonlaw03.RateTurns', WHERE WHAT IT READS IS OF BULK AT MOST 1048576: true; the input reads as it did. -/
def rateTurnsUptoRow : OpenClaim := { program := "ytcbffkkcldnegaa", sum := "88c83023e0fb76fc221afee562ba6a0864e2d7e1875ec913882c6313120a81de", func := "tourbillon/tourbillonlaw03.RateTurns", spec := "rateTurns", apart := false, narrowed := true }
def RateTurnsUptoSaid : Prop := rateTurnsUptoRow.holds Try.pinned (OpenSpec.upto rateTurnsSpec)

/-- 'tourbillonlaw03.RateSlopes', WHERE WHAT IT READS IS OF BULK AT MOST 1048576: true; the input reads as it did. -/
def rateSlopesUptoRow : OpenClaim := { program := "ytcbffkkcldnegaa", sum := "88c83023e0fb76fc221afee562ba6a0864e2d7e1875ec913882c6313120a81de", func := "tourbillon/tourbillonlaw03.RateSlopes", spec := "rateSlopes", apart := false, narrowed := true }
def RateSlopesUptoSaid : Prop := rateSlopesUptoRow.holds Try.pinned (OpenSpec.upto rateSlopesSpec)

/-- 'tourbillonlaw03.RateLeasts', WHERE WHAT IT READS IS OF BULK AT MOST 1048576: true; the input reads as it did. -/
def rateLeastsUptoRow : OpenClaim := { program := "ytcbffkkcldnegaa", sum := "88c83023e0fb76fc221afee562ba6a0864e2d7e1875ec913882c6313120a81de", func := "tourbillon/tourbillonlaw03.RateLeasts", spec := "rateLeasts", apart := false, narrowed := true }
def RateLeastsUptoSaid : Prop := rateLeastsUptoRow.holds Try.pinned (OpenSpec.upto rateLeastsSpec)

/-- 'tourbillonlaw03.RateProof', WHERE WHAT IT READS IS OF BULK AT MOST 1048576: true; the input reads as it did. -/
def rateProofUptoRow : OpenClaim := { program := "ytcbffkkcldnegaa", sum := "88c83023e0fb76fc221afee562ba6a0864e2d7e1875ec913882c6313120a81de", func := "tourbillon/tourbillonlaw03.RateProof", spec := "rateProof", apart := false, narrowed := true }
def RateProofUptoSaid : Prop := rateProofUptoRow.holds Try.pinned (OpenSpec.upto rateProofSpec)

/-- 'tourbillonlaw03.RateHulls', WHERE WHAT IT READS IS OF BULK AT MOST 1048576: true; the input reads as it did. -/
def rateHullsUptoRow : OpenClaim := { program := "ytcbffkkcldnegaa", sum := "88c83023e0fb76fc221afee562ba6a0864e2d7e1875ec913882c6313120a81de", func := "tourbillon/tourbillonlaw03.RateHulls", spec := "rateHulls", apart := false, narrowed := true }
def RateHullsUptoSaid : Prop := rateHullsUptoRow.holds Try.pinned (OpenSpec.upto rateHullsSpec)

/-- 'tourbillonlaw03.RateOuter', WHERE WHAT IT READS IS OF BULK AT MOST 1048576: true; the input reads as it did. -/
def rateOuterUptoRow : OpenClaim := { program := "ytcbffkkcldnegaa", sum := "88c83023e0fb76fc221afee562ba6a0864e2d7e1875ec913882c6313120a81de", func := "tourbillon/tourbillonlaw03.RateOuter", spec := "rateOuter", apart := false, narrowed := true }
def RateOuterUptoSaid : Prop := rateOuterUptoRow.holds Try.pinned (OpenSpec.upto rateOuterSpec)

/-- 'tourbillonlaw03.RateWorsts', WHERE WHAT IT READS IS OF BULK AT MOST 1048576: true; the input reads as it did. -/
def rateWorstsUptoRow : OpenClaim := { program := "ytcbffkkcldnegaa", sum := "88c83023e0fb76fc221afee562ba6a0864e2d7e1875ec913882c6313120a81de", func := "tourbillon/tourbillonlaw03.RateWorsts", spec := "rateWorsts", apart := false, narrowed := true }
def RateWorstsUptoSaid : Prop := rateWorstsUptoRow.holds Try.pinned (OpenSpec.upto rateWorstsSpec)

/-- 'tourbillonlaw03.RateBest', WHERE WHAT IT READS IS OF BULK AT MOST 1048576: true; the input reads as it did. -/
def rateBestUptoRow : OpenClaim := { program := "ytcbffkkcldnegaa", sum := "88c83023e0fb76fc221afee562ba6a0864e2d7e1875ec913882c6313120a81de", func := "tourbillon/tourbillonlaw03.RateBest", spec := "rateBest", apart := false, narrowed := true }
def RateBestUptoSaid : Prop := rateBestUptoRow.holds Try.pinned (OpenSpec.upto rateBestSpec)

/-- 'tourbillonlaw03.RateRuns', WHERE WHAT IT READS IS OF BULK AT MOST 1048576: true; the input reads as it did. -/
def rateRunsUptoRow : OpenClaim := { program := "ytcbffkkcldnegaa", sum := "88c83023e0fb76fc221afee562ba6a0864e2d7e1875ec913882c6313120a81de", func := "tourbillon/tourbillonlaw03.RateRuns", spec := "rateRuns", apart := false, narrowed := true }
def RateRunsUptoSaid : Prop := rateRunsUptoRow.holds Try.pinned (OpenSpec.upto rateRunsSpec)

/-- 'tourbillonlaw03.RateParts', WHERE WHAT IT READS IS OF BULK AT MOST 1048576: true; the input reads as it did. -/
def ratePartsUptoRow : OpenClaim := { program := "ytcbffkkcldnegaa", sum := "88c83023e0fb76fc221afee562ba6a0864e2d7e1875ec913882c6313120a81de", func := "tourbillon/tourbillonlaw03.RateParts", spec := "rateParts", apart := false, narrowed := true }
def RatePartsUptoSaid : Prop := ratePartsUptoRow.holds Try.pinned (OpenSpec.upto ratePartsSpec)

/-- 'tourbillontop.TopFewest', WHERE WHAT IT READS IS OF BULK AT MOST 1048576: true; the input reads as it did. -/
def topFewestUptoRow : OpenClaim := { program := "ytcbffkkcldnegaa", sum := "88c83023e0fb76fc221afee562ba6a0864e2d7e1875ec913882c6313120a81de", func := "tourbillon/tourbillontop.TopFewest", spec := "topFewest", apart := false, narrowed := true }
def TopFewestUptoSaid : Prop := topFewestUptoRow.holds Try.pinned (OpenSpec.upto topFewestSpec)

end Rows
end Go.Proofs.Ytcbffkkcldnegaa
