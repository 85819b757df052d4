/-
  NARROWER THAN 'FOR EVERY INPUT', by the rows' own cells (each row's printed sentence says how): ProbeBests: laid · ProbeOptimal: laid · ProbeParts: laid · ProbeMore: laid · ProbeCode: laid · ProbeTimes: laid · TopBetween: laid · ProbeCodes: laid · ProbeFloor: laid · ProbeEnough: laid · ProbeReads: laid · ProbeAparts: laid.
  DERIVED. THE GIVEN ROWS OF THIS SEAT. 12 by the template 'for every input the law returns true; each argument reads behind the call as it read before'; 0 by the template 'total and deterministic' (their statements: YtcjddfhhofoidaaDoorTotals.lean).
  GIVEN WITH THE SEED: the statements are not yours to turn. If you find one false, say at which input.
  Laid BY PROGRAM, IN A SANDBOX (cutbox-rows.mjs): the forced cells as the released guide's own fill.sh prints them over the translation 50cf932222f102d2… (all of the seat's roots in one cut). By AI agents, Wed Nov 11 2026. No macro, syntax, notation, axiom, sorry.
-/
import Derived.Test.YtcjddfhhofoidaaDoorChecked
import GoSem.Claim
import GoSem.ClaimJoined
import GoSem.ClaimMapViews
import Derived.JoinedTies
import Derived.KernelRfl
namespace Go.Proofs.YtcjddfhhofoidaaDoor
/- THE CELL 'sum', in the pinned program and in every row, IS THE sha256 OF THE DUMP (.gsa) THAT YtcjddfhhofoidaaDoorProg.lean LOADS. Nothing in Lean hashes anything: it is a label: what it is worth is what the hold of that sum in a sandbox is worth. -/
noncomputable def Tryd.pinned : Pinned := { name := "ytcjddfhhofoidaadoor", sum := "50cf932222f102d22143db6344eaa1432cdc53422f6bd83d1a159dcd2f2b788f", checked := Tryd.checked }
namespace Rows
def none {H : Type} : Left H := { results := [], args := [] }

/- WHAT THE LISTED PACKAGE-LEVEL VARIABLES READ AS WHEN THE CALL BEGINS. Each datum BY PROGRAM (the guide's laid-datum.mjs) off the statement by which the dump's own 'gosem.cut.vars' lays the variable. In a bare row this is a premise. The card (YtcjddfhhofoidaaDoorCards.lean) ties it to the program's text. -/
def laid_math_bits_deBruijn32tab {H : Type} : DataW H := .agg [.lit (.int .u8 0), .lit (.int .u8 1), .lit (.int .u8 28), .lit (.int .u8 2), .lit (.int .u8 29), .lit (.int .u8 14), .lit (.int .u8 24), .lit (.int .u8 3), .lit (.int .u8 30), .lit (.int .u8 22), .lit (.int .u8 20), .lit (.int .u8 15), .lit (.int .u8 25), .lit (.int .u8 17), .lit (.int .u8 4), .lit (.int .u8 8), .lit (.int .u8 31), .lit (.int .u8 27), .lit (.int .u8 13), .lit (.int .u8 23), .lit (.int .u8 21), .lit (.int .u8 19), .lit (.int .u8 16), .lit (.int .u8 7), .lit (.int .u8 26), .lit (.int .u8 12), .lit (.int .u8 18), .lit (.int .u8 6), .lit (.int .u8 11), .lit (.int .u8 5), .lit (.int .u8 10), .lit (.int .u8 9)]
def laid_math_bits_deBruijn64tab {H : Type} : DataW H := .agg [.lit (.int .u8 0), .lit (.int .u8 1), .lit (.int .u8 56), .lit (.int .u8 2), .lit (.int .u8 57), .lit (.int .u8 49), .lit (.int .u8 28), .lit (.int .u8 3), .lit (.int .u8 61), .lit (.int .u8 58), .lit (.int .u8 42), .lit (.int .u8 50), .lit (.int .u8 38), .lit (.int .u8 29), .lit (.int .u8 17), .lit (.int .u8 4), .lit (.int .u8 62), .lit (.int .u8 47), .lit (.int .u8 59), .lit (.int .u8 36), .lit (.int .u8 45), .lit (.int .u8 43), .lit (.int .u8 51), .lit (.int .u8 22), .lit (.int .u8 53), .lit (.int .u8 39), .lit (.int .u8 33), .lit (.int .u8 30), .lit (.int .u8 24), .lit (.int .u8 18), .lit (.int .u8 12), .lit (.int .u8 5), .lit (.int .u8 63), .lit (.int .u8 55), .lit (.int .u8 48), .lit (.int .u8 27), .lit (.int .u8 60), .lit (.int .u8 41), .lit (.int .u8 37), .lit (.int .u8 16), .lit (.int .u8 46), .lit (.int .u8 35), .lit (.int .u8 44), .lit (.int .u8 21), .lit (.int .u8 52), .lit (.int .u8 32), .lit (.int .u8 23), .lit (.int .u8 11), .lit (.int .u8 54), .lit (.int .u8 26), .lit (.int .u8 40), .lit (.int .u8 15), .lit (.int .u8 34), .lit (.int .u8 20), .lit (.int .u8 31), .lit (.int .u8 10), .lit (.int .u8 25), .lit (.int .u8 14), .lit (.int .u8 19), .lit (.int .u8 9), .lit (.int .u8 13), .lit (.int .u8 8), .lit (.int .u8 7), .lit (.int .u8 6)]

/-- 'tourbillonlaw05.ProbeBests': WHATEVER THE INPUT: true; the input reads as it did. -/
def probeBestsSpec : ChangeSpec := { name := "probeBests", fn := fun _ => fun
  | [d] => { results := [.lit (.bool true)], args := [d] }
  | _ => none }
def probeBestsRow : OpenClaim := { program := "ytcjddfhhofoidaadoor", sum := "50cf932222f102d22143db6344eaa1432cdc53422f6bd83d1a159dcd2f2b788f", func := "tourbillon/tourbillonlaw05.ProbeBests", spec := "probeBests", unfollowed := true, recurses := true, named := ["math/bits.deBruijn32tab", "math/bits.deBruijn64tab"], apart := false, laid := [("math/bits.deBruijn32tab", laid_math_bits_deBruijn32tab), ("math/bits.deBruijn64tab", laid_math_bits_deBruijn64tab)] }
def ProbeBestsSaid : Prop := probeBestsRow.holds Tryd.pinned (OpenSpec.ofChange probeBestsSpec)

/-- ITS FALSE NEIGHBOUR: 'it returns false'. Refute it at one input. -/
def probeBestsWrong : ChangeSpec := { name := "probeBests", fn := fun _ => fun
  | [d] => { results := [.lit (.bool false)], args := [d] }
  | _ => none }
def ProbeBestsWrongFalsely : Prop := probeBestsRow.holds Tryd.pinned (OpenSpec.ofChange probeBestsWrong)

/-- 'tourbillonlaw05.ProbeOptimal': WHATEVER THE INPUT: true; the input reads as it did. -/
def probeOptimalSpec : ChangeSpec := { name := "probeOptimal", fn := fun _ => fun
  | [d1, d2] => { results := [.lit (.bool true)], args := [d1, d2] }
  | _ => none }
def probeOptimalRow : OpenClaim := { program := "ytcjddfhhofoidaadoor", sum := "50cf932222f102d22143db6344eaa1432cdc53422f6bd83d1a159dcd2f2b788f", func := "tourbillon/tourbillonlaw05.ProbeOptimal", spec := "probeOptimal", unfollowed := true, recurses := true, named := ["math/bits.deBruijn32tab", "math/bits.deBruijn64tab"], apart := false, laid := [("math/bits.deBruijn32tab", laid_math_bits_deBruijn32tab), ("math/bits.deBruijn64tab", laid_math_bits_deBruijn64tab)] }
def ProbeOptimalSaid : Prop := probeOptimalRow.holds Tryd.pinned (OpenSpec.ofChange probeOptimalSpec)

/-- ITS FALSE NEIGHBOUR: 'it returns false'. Refute it at one input. -/
def probeOptimalWrong : ChangeSpec := { name := "probeOptimal", fn := fun _ => fun
  | [d1, d2] => { results := [.lit (.bool false)], args := [d1, d2] }
  | _ => none }
def ProbeOptimalWrongFalsely : Prop := probeOptimalRow.holds Tryd.pinned (OpenSpec.ofChange probeOptimalWrong)

/-- 'tourbillonlaw05.ProbeParts': WHATEVER THE INPUT: true; the input reads as it did. -/
def probePartsSpec : ChangeSpec := { name := "probeParts", fn := fun _ => fun
  | [d] => { results := [.lit (.bool true)], args := [d] }
  | _ => none }
def probePartsRow : OpenClaim := { program := "ytcjddfhhofoidaadoor", sum := "50cf932222f102d22143db6344eaa1432cdc53422f6bd83d1a159dcd2f2b788f", func := "tourbillon/tourbillonlaw05.ProbeParts", spec := "probeParts", unfollowed := true, recurses := true, named := ["math/bits.deBruijn32tab", "math/bits.deBruijn64tab"], apart := false, laid := [("math/bits.deBruijn32tab", laid_math_bits_deBruijn32tab), ("math/bits.deBruijn64tab", laid_math_bits_deBruijn64tab)] }
def ProbePartsSaid : Prop := probePartsRow.holds Tryd.pinned (OpenSpec.ofChange probePartsSpec)

/-- ITS FALSE NEIGHBOUR: 'it returns false'. Refute it at one input. -/
def probePartsWrong : ChangeSpec := { name := "probeParts", fn := fun _ => fun
  | [d] => { results := [.lit (.bool false)], args := [d] }
  | _ => none }
def ProbePartsWrongFalsely : Prop := probePartsRow.holds Tryd.pinned (OpenSpec.ofChange probePartsWrong)

/-- 'tourbillonlaw05.ProbeMore': WHATEVER THE INPUT: true; the input reads as it did. -/
def probeMoreSpec : ChangeSpec := { name := "probeMore", fn := fun _ => fun
  | [d1, d2, d3] => { results := [.lit (.bool true)], args := [d1, d2, d3] }
  | _ => none }
def probeMoreRow : OpenClaim := { program := "ytcjddfhhofoidaadoor", sum := "50cf932222f102d22143db6344eaa1432cdc53422f6bd83d1a159dcd2f2b788f", func := "tourbillon/tourbillonlaw05.ProbeMore", spec := "probeMore", unfollowed := true, recurses := true, named := ["math/bits.deBruijn32tab", "math/bits.deBruijn64tab"], apart := false, laid := [("math/bits.deBruijn32tab", laid_math_bits_deBruijn32tab), ("math/bits.deBruijn64tab", laid_math_bits_deBruijn64tab)] }
def ProbeMoreSaid : Prop := probeMoreRow.holds Tryd.pinned (OpenSpec.ofChange probeMoreSpec)

/-- ITS FALSE NEIGHBOUR: 'it returns false'. Refute it at one input. -/
def probeMoreWrong : ChangeSpec := { name := "probeMore", fn := fun _ => fun
  | [d1, d2, d3] => { results := [.lit (.bool false)], args := [d1, d2, d3] }
  | _ => none }
def ProbeMoreWrongFalsely : Prop := probeMoreRow.holds Tryd.pinned (OpenSpec.ofChange probeMoreWrong)

/-- 'tourbillonlaw05.ProbeCode': WHATEVER THE INPUT: true; the input reads as it did. -/
def probeCodeSpec : ChangeSpec := { name := "probeCode", fn := fun _ => fun
  | [d1, d2] => { results := [.lit (.bool true)], args := [d1, d2] }
  | _ => none }
def probeCodeRow : OpenClaim := { program := "ytcjddfhhofoidaadoor", sum := "50cf932222f102d22143db6344eaa1432cdc53422f6bd83d1a159dcd2f2b788f", func := "tourbillon/tourbillonlaw05.ProbeCode", spec := "probeCode", unfollowed := true, recurses := true, named := ["math/bits.deBruijn32tab", "math/bits.deBruijn64tab"], apart := false, laid := [("math/bits.deBruijn32tab", laid_math_bits_deBruijn32tab), ("math/bits.deBruijn64tab", laid_math_bits_deBruijn64tab)] }
def ProbeCodeSaid : Prop := probeCodeRow.holds Tryd.pinned (OpenSpec.ofChange probeCodeSpec)

/-- ITS FALSE NEIGHBOUR: 'it returns false'. Refute it at one input. -/
def probeCodeWrong : ChangeSpec := { name := "probeCode", fn := fun _ => fun
  | [d1, d2] => { results := [.lit (.bool false)], args := [d1, d2] }
  | _ => none }
def ProbeCodeWrongFalsely : Prop := probeCodeRow.holds Tryd.pinned (OpenSpec.ofChange probeCodeWrong)

/-- 'tourbillonlaw05.ProbeTimes': WHATEVER THE INPUT: true; the input reads as it did. -/
def probeTimesSpec : ChangeSpec := { name := "probeTimes", fn := fun _ => fun
  | [d1, d2] => { results := [.lit (.bool true)], args := [d1, d2] }
  | _ => none }
def probeTimesRow : OpenClaim := { program := "ytcjddfhhofoidaadoor", sum := "50cf932222f102d22143db6344eaa1432cdc53422f6bd83d1a159dcd2f2b788f", func := "tourbillon/tourbillonlaw05.ProbeTimes", spec := "probeTimes", unfollowed := true, recurses := true, named := ["math/bits.deBruijn32tab", "math/bits.deBruijn64tab"], apart := false, laid := [("math/bits.deBruijn32tab", laid_math_bits_deBruijn32tab), ("math/bits.deBruijn64tab", laid_math_bits_deBruijn64tab)] }
def ProbeTimesSaid : Prop := probeTimesRow.holds Tryd.pinned (OpenSpec.ofChange probeTimesSpec)

/-- ITS FALSE NEIGHBOUR: 'it returns false'. Refute it at one input. -/
def probeTimesWrong : ChangeSpec := { name := "probeTimes", fn := fun _ => fun
  | [d1, d2] => { results := [.lit (.bool false)], args := [d1, d2] }
  | _ => none }
def ProbeTimesWrongFalsely : Prop := probeTimesRow.holds Tryd.pinned (OpenSpec.ofChange probeTimesWrong)

/-- 'tourbillontop.TopBetween': WHATEVER THE INPUT: true; the input reads as it did. -/
def topBetweenSpec : ChangeSpec := { name := "topBetween", fn := fun _ => fun
  | [d1, d2] => { results := [.lit (.bool true)], args := [d1, d2] }
  | _ => none }
def topBetweenRow : OpenClaim := { program := "ytcjddfhhofoidaadoor", sum := "50cf932222f102d22143db6344eaa1432cdc53422f6bd83d1a159dcd2f2b788f", func := "tourbillon/tourbillontop.TopBetween", spec := "topBetween", unfollowed := true, recurses := true, named := ["math/bits.deBruijn32tab", "math/bits.deBruijn64tab"], apart := false, laid := [("math/bits.deBruijn32tab", laid_math_bits_deBruijn32tab), ("math/bits.deBruijn64tab", laid_math_bits_deBruijn64tab)] }
def TopBetweenSaid : Prop := topBetweenRow.holds Tryd.pinned (OpenSpec.ofChange topBetweenSpec)

/-- ITS FALSE NEIGHBOUR: 'it returns false'. Refute it at one input. -/
def topBetweenWrong : ChangeSpec := { name := "topBetween", fn := fun _ => fun
  | [d1, d2] => { results := [.lit (.bool false)], args := [d1, d2] }
  | _ => none }
def TopBetweenWrongFalsely : Prop := topBetweenRow.holds Tryd.pinned (OpenSpec.ofChange topBetweenWrong)

/-- 'tourbillonlaw05.ProbeCodes': WHATEVER THE INPUT: true; the input reads as it did. -/
def probeCodesSpec : ChangeSpec := { name := "probeCodes", fn := fun _ => fun
  | [d1, d2] => { results := [.lit (.bool true)], args := [d1, d2] }
  | _ => none }
def probeCodesRow : OpenClaim := { program := "ytcjddfhhofoidaadoor", sum := "50cf932222f102d22143db6344eaa1432cdc53422f6bd83d1a159dcd2f2b788f", func := "tourbillon/tourbillonlaw05.ProbeCodes", spec := "probeCodes", unfollowed := true, recurses := true, named := ["math/bits.deBruijn32tab", "math/bits.deBruijn64tab"], apart := false, laid := [("math/bits.deBruijn32tab", laid_math_bits_deBruijn32tab), ("math/bits.deBruijn64tab", laid_math_bits_deBruijn64tab)] }
def ProbeCodesSaid : Prop := probeCodesRow.holds Tryd.pinned (OpenSpec.ofChange probeCodesSpec)

/-- ITS FALSE NEIGHBOUR: 'it returns false'. Refute it at one input. -/
def probeCodesWrong : ChangeSpec := { name := "probeCodes", fn := fun _ => fun
  | [d1, d2] => { results := [.lit (.bool false)], args := [d1, d2] }
  | _ => none }
def ProbeCodesWrongFalsely : Prop := probeCodesRow.holds Tryd.pinned (OpenSpec.ofChange probeCodesWrong)

/-- 'tourbillonlaw05.ProbeFloor': WHATEVER THE INPUT: true; the input reads as it did. -/
def probeFloorSpec : ChangeSpec := { name := "probeFloor", fn := fun _ => fun
  | [d1, d2, d3] => { results := [.lit (.bool true)], args := [d1, d2, d3] }
  | _ => none }
def probeFloorRow : OpenClaim := { program := "ytcjddfhhofoidaadoor", sum := "50cf932222f102d22143db6344eaa1432cdc53422f6bd83d1a159dcd2f2b788f", func := "tourbillon/tourbillonlaw05.ProbeFloor", spec := "probeFloor", unfollowed := true, recurses := true, named := ["math/bits.deBruijn32tab", "math/bits.deBruijn64tab"], apart := false, laid := [("math/bits.deBruijn32tab", laid_math_bits_deBruijn32tab), ("math/bits.deBruijn64tab", laid_math_bits_deBruijn64tab)] }
def ProbeFloorSaid : Prop := probeFloorRow.holds Tryd.pinned (OpenSpec.ofChange probeFloorSpec)

/-- ITS FALSE NEIGHBOUR: 'it returns false'. Refute it at one input. -/
def probeFloorWrong : ChangeSpec := { name := "probeFloor", fn := fun _ => fun
  | [d1, d2, d3] => { results := [.lit (.bool false)], args := [d1, d2, d3] }
  | _ => none }
def ProbeFloorWrongFalsely : Prop := probeFloorRow.holds Tryd.pinned (OpenSpec.ofChange probeFloorWrong)

/-- 'tourbillonlaw05.ProbeEnough': WHATEVER THE INPUT: true; the input reads as it did. -/
def probeEnoughSpec : ChangeSpec := { name := "probeEnough", fn := fun _ => fun
  | [d1, d2] => { results := [.lit (.bool true)], args := [d1, d2] }
  | _ => none }
def probeEnoughRow : OpenClaim := { program := "ytcjddfhhofoidaadoor", sum := "50cf932222f102d22143db6344eaa1432cdc53422f6bd83d1a159dcd2f2b788f", func := "tourbillon/tourbillonlaw05.ProbeEnough", spec := "probeEnough", unfollowed := true, recurses := true, named := ["math/bits.deBruijn32tab", "math/bits.deBruijn64tab"], apart := false, laid := [("math/bits.deBruijn32tab", laid_math_bits_deBruijn32tab), ("math/bits.deBruijn64tab", laid_math_bits_deBruijn64tab)] }
def ProbeEnoughSaid : Prop := probeEnoughRow.holds Tryd.pinned (OpenSpec.ofChange probeEnoughSpec)

/-- ITS FALSE NEIGHBOUR: 'it returns false'. Refute it at one input. -/
def probeEnoughWrong : ChangeSpec := { name := "probeEnough", fn := fun _ => fun
  | [d1, d2] => { results := [.lit (.bool false)], args := [d1, d2] }
  | _ => none }
def ProbeEnoughWrongFalsely : Prop := probeEnoughRow.holds Tryd.pinned (OpenSpec.ofChange probeEnoughWrong)

/-- 'tourbillonlaw05.ProbeReads': WHATEVER THE INPUT: true; the input reads as it did. -/
def probeReadsSpec : ChangeSpec := { name := "probeReads", fn := fun _ => fun
  | [d1, d2, d3] => { results := [.lit (.bool true)], args := [d1, d2, d3] }
  | _ => none }
def probeReadsRow : OpenClaim := { program := "ytcjddfhhofoidaadoor", sum := "50cf932222f102d22143db6344eaa1432cdc53422f6bd83d1a159dcd2f2b788f", func := "tourbillon/tourbillonlaw05.ProbeReads", spec := "probeReads", unfollowed := true, recurses := true, named := ["math/bits.deBruijn32tab", "math/bits.deBruijn64tab"], apart := false, laid := [("math/bits.deBruijn32tab", laid_math_bits_deBruijn32tab), ("math/bits.deBruijn64tab", laid_math_bits_deBruijn64tab)] }
def ProbeReadsSaid : Prop := probeReadsRow.holds Tryd.pinned (OpenSpec.ofChange probeReadsSpec)

/-- ITS FALSE NEIGHBOUR: 'it returns false'. Refute it at one input. -/
def probeReadsWrong : ChangeSpec := { name := "probeReads", fn := fun _ => fun
  | [d1, d2, d3] => { results := [.lit (.bool false)], args := [d1, d2, d3] }
  | _ => none }
def ProbeReadsWrongFalsely : Prop := probeReadsRow.holds Tryd.pinned (OpenSpec.ofChange probeReadsWrong)

/-- 'tourbillonlaw05.ProbeAparts': WHATEVER THE INPUT: true; the input reads as it did. -/
def probeApartsSpec : ChangeSpec := { name := "probeAparts", fn := fun _ => fun
  | [d] => { results := [.lit (.bool true)], args := [d] }
  | _ => none }
def probeApartsRow : OpenClaim := { program := "ytcjddfhhofoidaadoor", sum := "50cf932222f102d22143db6344eaa1432cdc53422f6bd83d1a159dcd2f2b788f", func := "tourbillon/tourbillonlaw05.ProbeAparts", spec := "probeAparts", unfollowed := true, recurses := true, named := ["math/bits.deBruijn32tab", "math/bits.deBruijn64tab"], apart := false, laid := [("math/bits.deBruijn32tab", laid_math_bits_deBruijn32tab), ("math/bits.deBruijn64tab", laid_math_bits_deBruijn64tab)] }
def ProbeApartsSaid : Prop := probeApartsRow.holds Tryd.pinned (OpenSpec.ofChange probeApartsSpec)

/-- ITS FALSE NEIGHBOUR: 'it returns false'. Refute it at one input. -/
def probeApartsWrong : ChangeSpec := { name := "probeAparts", fn := fun _ => fun
  | [d] => { results := [.lit (.bool false)], args := [d] }
  | _ => none }
def ProbeApartsWrongFalsely : Prop := probeApartsRow.holds Tryd.pinned (OpenSpec.ofChange probeApartsWrong)

/- THE SECOND FORM. 'bulk': how many values and letters a reading holds, each counted each time it is reached (what is shared counts as often as it is met; a slice's spare places count too). A statement '..UptoSaid' is the law's where the arguments, and the package variables that the reading takes, are together of bulk at most 1048576: NARROWER than '..Said'. Prove '..Said' where nothing that the law and all that it calls make is longer than what came in: it says more and counts as full. Else prove '..UptoSaid'. A law counts once. -/
mutual
def uptoBulk {H : Type} : DataW H → Nat
  | .lit (.string bytes) => bytes.length + 1
  | .lit _ => 1
  | .nil => 1
  | .ptr d => uptoBulk d + 1
  | .slice elems spare => uptoBulkAll elems + uptoBulkAll spare + 1
  | .agg parts => uptoBulkAll parts + 1
  | .iface _ d => uptoBulk d + 1
  | .map entries => uptoBulkEntries entries + 1
  | .held _ => 1
def uptoBulkAll {H : Type} : List (DataW H) → Nat
  | [] => 0
  | d :: r => uptoBulk d + uptoBulkAll r
def uptoBulkEntries {H : Type} : List (Lit × DataW H) → Nat
  | [] => 0
  | x :: r => uptoBulkEntry x + uptoBulkEntries r
def uptoBulkEntry {H : Type} : Lit × DataW H → Nat
  | (.string bytes, d) => bytes.length + uptoBulk d + 1
  | (_, d) => uptoBulk d + 1
 end
def uptoSmall : (H : Type) → List (DataW H) → Bool := fun _ ds => decide (uptoBulkAll ds ≤ 1048576)
def OpenSpec.upto (s : _root_.Go.ChangeSpec) : _root_.Go.OpenSpec := { _root_.Go.OpenSpec.ofChange s with cond := some uptoSmall }

/-- 'tourbillonlaw05.ProbeBests', WHERE WHAT IT READS IS OF BULK AT MOST 1048576: true; the input reads as it did. -/
def probeBestsUptoRow : OpenClaim := { program := "ytcjddfhhofoidaadoor", sum := "50cf932222f102d22143db6344eaa1432cdc53422f6bd83d1a159dcd2f2b788f", func := "tourbillon/tourbillonlaw05.ProbeBests", spec := "probeBests", unfollowed := true, recurses := true, named := ["math/bits.deBruijn32tab", "math/bits.deBruijn64tab"], apart := false, laid := [("math/bits.deBruijn32tab", laid_math_bits_deBruijn32tab), ("math/bits.deBruijn64tab", laid_math_bits_deBruijn64tab)], narrowed := true }
def ProbeBestsUptoSaid : Prop := probeBestsUptoRow.holds Tryd.pinned (OpenSpec.upto probeBestsSpec)

/-- 'tourbillonlaw05.ProbeOptimal', WHERE WHAT IT READS IS OF BULK AT MOST 1048576: true; the input reads as it did. -/
def probeOptimalUptoRow : OpenClaim := { program := "ytcjddfhhofoidaadoor", sum := "50cf932222f102d22143db6344eaa1432cdc53422f6bd83d1a159dcd2f2b788f", func := "tourbillon/tourbillonlaw05.ProbeOptimal", spec := "probeOptimal", unfollowed := true, recurses := true, named := ["math/bits.deBruijn32tab", "math/bits.deBruijn64tab"], apart := false, laid := [("math/bits.deBruijn32tab", laid_math_bits_deBruijn32tab), ("math/bits.deBruijn64tab", laid_math_bits_deBruijn64tab)], narrowed := true }
def ProbeOptimalUptoSaid : Prop := probeOptimalUptoRow.holds Tryd.pinned (OpenSpec.upto probeOptimalSpec)

/-- 'tourbillonlaw05.ProbeParts', WHERE WHAT IT READS IS OF BULK AT MOST 1048576: true; the input reads as it did. -/
def probePartsUptoRow : OpenClaim := { program := "ytcjddfhhofoidaadoor", sum := "50cf932222f102d22143db6344eaa1432cdc53422f6bd83d1a159dcd2f2b788f", func := "tourbillon/tourbillonlaw05.ProbeParts", spec := "probeParts", unfollowed := true, recurses := true, named := ["math/bits.deBruijn32tab", "math/bits.deBruijn64tab"], apart := false, laid := [("math/bits.deBruijn32tab", laid_math_bits_deBruijn32tab), ("math/bits.deBruijn64tab", laid_math_bits_deBruijn64tab)], narrowed := true }
def ProbePartsUptoSaid : Prop := probePartsUptoRow.holds Tryd.pinned (OpenSpec.upto probePartsSpec)

/-- 'tourbillonlaw05.ProbeMore', WHERE WHAT IT READS IS OF BULK AT MOST 1048576: true; the input reads as it did. -/
def probeMoreUptoRow : OpenClaim := { program := "ytcjddfhhofoidaadoor", sum := "50cf932222f102d22143db6344eaa1432cdc53422f6bd83d1a159dcd2f2b788f", func := "tourbillon/tourbillonlaw05.ProbeMore", spec := "probeMore", unfollowed := true, recurses := true, named := ["math/bits.deBruijn32tab", "math/bits.deBruijn64tab"], apart := false, laid := [("math/bits.deBruijn32tab", laid_math_bits_deBruijn32tab), ("math/bits.deBruijn64tab", laid_math_bits_deBruijn64tab)], narrowed := true }
def ProbeMoreUptoSaid : Prop := probeMoreUptoRow.holds Tryd.pinned (OpenSpec.upto probeMoreSpec)

/-- 'tourbillonlaw05.ProbeCode', WHERE WHAT IT READS IS OF BULK AT MOST 1048576: true; the input reads as it did. -/
def probeCodeUptoRow : OpenClaim := { program := "ytcjddfhhofoidaadoor", sum := "50cf932222f102d22143db6344eaa1432cdc53422f6bd83d1a159dcd2f2b788f", func := "tourbillon/tourbillonlaw05.ProbeCode", spec := "probeCode", unfollowed := true, recurses := true, named := ["math/bits.deBruijn32tab", "math/bits.deBruijn64tab"], apart := false, laid := [("math/bits.deBruijn32tab", laid_math_bits_deBruijn32tab), ("math/bits.deBruijn64tab", laid_math_bits_deBruijn64tab)], narrowed := true }
def ProbeCodeUptoSaid : Prop := probeCodeUptoRow.holds Tryd.pinned (OpenSpec.upto probeCodeSpec)

/-- 'tourbillonlaw05.ProbeTimes', WHERE WHAT IT READS IS OF BULK AT MOST 1048576: true; the input reads as it did. -/
def probeTimesUptoRow : OpenClaim := { program := "ytcjddfhhofoidaadoor", sum := "50cf932222f102d22143db6344eaa1432cdc53422f6bd83d1a159dcd2f2b788f", func := "tourbillon/tourbillonlaw05.ProbeTimes", spec := "probeTimes", unfollowed := true, recurses := true, named := ["math/bits.deBruijn32tab", "math/bits.deBruijn64tab"], apart := false, laid := [("math/bits.deBruijn32tab", laid_math_bits_deBruijn32tab), ("math/bits.deBruijn64tab", laid_math_bits_deBruijn64tab)], narrowed := true }
def ProbeTimesUptoSaid : Prop := probeTimesUptoRow.holds Tryd.pinned (OpenSpec.upto probeTimesSpec)

/-- 'tourbillontop.TopBetween', WHERE WHAT IT READS IS OF BULK AT MOST 1048576: true; the input reads as it did. -/
def topBetweenUptoRow : OpenClaim := { program := "ytcjddfhhofoidaadoor", sum := "50cf932222f102d22143db6344eaa1432cdc53422f6bd83d1a159dcd2f2b788f", func := "tourbillon/tourbillontop.TopBetween", spec := "topBetween", unfollowed := true, recurses := true, named := ["math/bits.deBruijn32tab", "math/bits.deBruijn64tab"], apart := false, laid := [("math/bits.deBruijn32tab", laid_math_bits_deBruijn32tab), ("math/bits.deBruijn64tab", laid_math_bits_deBruijn64tab)], narrowed := true }
def TopBetweenUptoSaid : Prop := topBetweenUptoRow.holds Tryd.pinned (OpenSpec.upto topBetweenSpec)

/-- 'tourbillonlaw05.ProbeCodes', WHERE WHAT IT READS IS OF BULK AT MOST 1048576: true; the input reads as it did. -/
def probeCodesUptoRow : OpenClaim := { program := "ytcjddfhhofoidaadoor", sum := "50cf932222f102d22143db6344eaa1432cdc53422f6bd83d1a159dcd2f2b788f", func := "tourbillon/tourbillonlaw05.ProbeCodes", spec := "probeCodes", unfollowed := true, recurses := true, named := ["math/bits.deBruijn32tab", "math/bits.deBruijn64tab"], apart := false, laid := [("math/bits.deBruijn32tab", laid_math_bits_deBruijn32tab), ("math/bits.deBruijn64tab", laid_math_bits_deBruijn64tab)], narrowed := true }
def ProbeCodesUptoSaid : Prop := probeCodesUptoRow.holds Tryd.pinned (OpenSpec.upto probeCodesSpec)

/-- 'tourbillonlaw05.ProbeFloor', WHERE WHAT IT READS IS OF BULK AT MOST 1048576: true; the input reads as it did. -/
def probeFloorUptoRow : OpenClaim := { program := "ytcjddfhhofoidaadoor", sum := "50cf932222f102d22143db6344eaa1432cdc53422f6bd83d1a159dcd2f2b788f", func := "tourbillon/tourbillonlaw05.ProbeFloor", spec := "probeFloor", unfollowed := true, recurses := true, named := ["math/bits.deBruijn32tab", "math/bits.deBruijn64tab"], apart := false, laid := [("math/bits.deBruijn32tab", laid_math_bits_deBruijn32tab), ("math/bits.deBruijn64tab", laid_math_bits_deBruijn64tab)], narrowed := true }
def ProbeFloorUptoSaid : Prop := probeFloorUptoRow.holds Tryd.pinned (OpenSpec.upto probeFloorSpec)

/-- 'tourbillonlaw05.ProbeEnough', WHERE WHAT IT READS IS OF BULK AT MOST 1048576: true; the input reads as it did. -/
def probeEnoughUptoRow : OpenClaim := { program := "ytcjddfhhofoidaadoor", sum := "50cf932222f102d22143db6344eaa1432cdc53422f6bd83d1a159dcd2f2b788f", func := "tourbillon/tourbillonlaw05.ProbeEnough", spec := "probeEnough", unfollowed := true, recurses := true, named := ["math/bits.deBruijn32tab", "math/bits.deBruijn64tab"], apart := false, laid := [("math/bits.deBruijn32tab", laid_math_bits_deBruijn32tab), ("math/bits.deBruijn64tab", laid_math_bits_deBruijn64tab)], narrowed := true }
def ProbeEnoughUptoSaid : Prop := probeEnoughUptoRow.holds Tryd.pinned (OpenSpec.upto probeEnoughSpec)

/-- 'tourbillonlaw05.ProbeReads', WHERE WHAT IT READS IS OF BULK AT MOST 1048576: true; the input reads as it did. -/
def probeReadsUptoRow : OpenClaim := { program := "ytcjddfhhofoidaadoor", sum := "50cf932222f102d22143db6344eaa1432cdc53422f6bd83d1a159dcd2f2b788f", func := "tourbillon/tourbillonlaw05.ProbeReads", spec := "probeReads", unfollowed := true, recurses := true, named := ["math/bits.deBruijn32tab", "math/bits.deBruijn64tab"], apart := false, laid := [("math/bits.deBruijn32tab", laid_math_bits_deBruijn32tab), ("math/bits.deBruijn64tab", laid_math_bits_deBruijn64tab)], narrowed := true }
def ProbeReadsUptoSaid : Prop := probeReadsUptoRow.holds Tryd.pinned (OpenSpec.upto probeReadsSpec)

/-- 'tourbillonlaw05.ProbeAparts', WHERE WHAT IT READS IS OF BULK AT MOST 1048576: true; the input reads as it did. -/
def probeApartsUptoRow : OpenClaim := { program := "ytcjddfhhofoidaadoor", sum := "50cf932222f102d22143db6344eaa1432cdc53422f6bd83d1a159dcd2f2b788f", func := "tourbillon/tourbillonlaw05.ProbeAparts", spec := "probeAparts", unfollowed := true, recurses := true, named := ["math/bits.deBruijn32tab", "math/bits.deBruijn64tab"], apart := false, laid := [("math/bits.deBruijn32tab", laid_math_bits_deBruijn32tab), ("math/bits.deBruijn64tab", laid_math_bits_deBruijn64tab)], narrowed := true }
def ProbeApartsUptoSaid : Prop := probeApartsUptoRow.holds Tryd.pinned (OpenSpec.upto probeApartsSpec)

end Rows
end Go.Proofs.YtcjddfhhofoidaaDoor
