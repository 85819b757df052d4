/-
  No cell of these rows narrows 'for every input' (looked for: loops, veiled, ifaces, maps, wideKeys, modest, calm, conditions, laid).
  DERIVED. THE GIVEN ROWS OF THIS SEAT. 10 by the template 'for every input the law returns true; each argument reads behind the call as it read before'; 0 by the template 'total and deterministic' (their statements: YtfljnfdeboibhaaGreatTotals.lean).
  GIVEN WITH THE SEED: the statements are not yours to turn. If you find one false, say at which input.
  Laid BY PROGRAM, IN A SANDBOX (cutbox-rows.mjs): the forced cells as the released guide's own fill.sh prints them over the translation ca99202f7528cdc9… (all of the seat's roots in one cut). By AI agents, Wed Nov 11 2026. No macro, syntax, notation, axiom, sorry.
-/
import Derived.Test.YtfljnfdeboibhaaGreatChecked
import GoSem.Claim
import GoSem.ClaimJoined
import GoSem.ClaimMapViews
import Derived.JoinedTies
import Derived.KernelRfl
namespace Go.Proofs.YtfljnfdeboibhaaGreat
/- THE CELL 'sum', in the pinned program and in every row, IS THE sha256 OF THE DUMP (.gsa) THAT YtfljnfdeboibhaaGreatProg.lean LOADS. Nothing in Lean hashes anything: it is a label: what it is worth is what the hold of that sum in a sandbox is worth. -/
noncomputable def Tryz.pinned : Pinned := { name := "ytfljnfdeboibhaagreat", sum := "ca99202f7528cdc93590f3117d41e19f895dbf8889ce05aef1dcea1be13de10f", checked := Tryz.checked }
namespace Rows
def none {H : Type} : Left H := { results := [], args := [] }

/-- 'tourbillonlaw09.StoreAgain': WHATEVER THE INPUT: true; the input reads as it did. -/
def storeAgainSpec : ChangeSpec := { name := "storeAgain", fn := fun _ => fun
  | [d1, d2, d3] => { results := [.lit (.bool true)], args := [d1, d2, d3] }
  | _ => none }
def storeAgainRow : OpenClaim := { program := "ytfljnfdeboibhaagreat", sum := "ca99202f7528cdc93590f3117d41e19f895dbf8889ce05aef1dcea1be13de10f", func := "tourbillon/tourbillonlaw09.StoreAgain", spec := "storeAgain", unfollowed := true, recurses := true, apart := false }
def StoreAgainSaid : Prop := storeAgainRow.holds Tryz.pinned (OpenSpec.ofChange storeAgainSpec)

/-- ITS FALSE NEIGHBOUR: 'it returns false'. Refute it at one input. -/
def storeAgainWrong : ChangeSpec := { name := "storeAgain", fn := fun _ => fun
  | [d1, d2, d3] => { results := [.lit (.bool false)], args := [d1, d2, d3] }
  | _ => none }
def StoreAgainWrongFalsely : Prop := storeAgainRow.holds Tryz.pinned (OpenSpec.ofChange storeAgainWrong)

/-- 'tourbillonlaw09.StoreCrashes': WHATEVER THE INPUT: true; the input reads as it did. -/
def storeCrashesSpec : ChangeSpec := { name := "storeCrashes", fn := fun _ => fun
  | [d1, d2, d3] => { results := [.lit (.bool true)], args := [d1, d2, d3] }
  | _ => none }
def storeCrashesRow : OpenClaim := { program := "ytfljnfdeboibhaagreat", sum := "ca99202f7528cdc93590f3117d41e19f895dbf8889ce05aef1dcea1be13de10f", func := "tourbillon/tourbillonlaw09.StoreCrashes", spec := "storeCrashes", unfollowed := true, recurses := true, apart := false }
def StoreCrashesSaid : Prop := storeCrashesRow.holds Tryz.pinned (OpenSpec.ofChange storeCrashesSpec)

/-- ITS FALSE NEIGHBOUR: 'it returns false'. Refute it at one input. -/
def storeCrashesWrong : ChangeSpec := { name := "storeCrashes", fn := fun _ => fun
  | [d1, d2, d3] => { results := [.lit (.bool false)], args := [d1, d2, d3] }
  | _ => none }
def StoreCrashesWrongFalsely : Prop := storeCrashesRow.holds Tryz.pinned (OpenSpec.ofChange storeCrashesWrong)

/-- 'tourbillonlaw09.StoreCloned': WHATEVER THE INPUT: true; the input reads as it did. -/
def storeClonedSpec : ChangeSpec := { name := "storeCloned", fn := fun _ => fun
  | [d1, d2, d3] => { results := [.lit (.bool true)], args := [d1, d2, d3] }
  | _ => none }
def storeClonedRow : OpenClaim := { program := "ytfljnfdeboibhaagreat", sum := "ca99202f7528cdc93590f3117d41e19f895dbf8889ce05aef1dcea1be13de10f", func := "tourbillon/tourbillonlaw09.StoreCloned", spec := "storeCloned", unfollowed := true, recurses := true, apart := false }
def StoreClonedSaid : Prop := storeClonedRow.holds Tryz.pinned (OpenSpec.ofChange storeClonedSpec)

/-- ITS FALSE NEIGHBOUR: 'it returns false'. Refute it at one input. -/
def storeClonedWrong : ChangeSpec := { name := "storeCloned", fn := fun _ => fun
  | [d1, d2, d3] => { results := [.lit (.bool false)], args := [d1, d2, d3] }
  | _ => none }
def StoreClonedWrongFalsely : Prop := storeClonedRow.holds Tryz.pinned (OpenSpec.ofChange storeClonedWrong)

/-- 'tourbillonlaw09.StorePlays': WHATEVER THE INPUT: true; the input reads as it did. -/
def storePlaysSpec : ChangeSpec := { name := "storePlays", fn := fun _ => fun
  | [d1, d2] => { results := [.lit (.bool true)], args := [d1, d2] }
  | _ => none }
def storePlaysRow : OpenClaim := { program := "ytfljnfdeboibhaagreat", sum := "ca99202f7528cdc93590f3117d41e19f895dbf8889ce05aef1dcea1be13de10f", func := "tourbillon/tourbillonlaw09.StorePlays", spec := "storePlays", unfollowed := true, recurses := true, apart := false }
def StorePlaysSaid : Prop := storePlaysRow.holds Tryz.pinned (OpenSpec.ofChange storePlaysSpec)

/-- ITS FALSE NEIGHBOUR: 'it returns false'. Refute it at one input. -/
def storePlaysWrong : ChangeSpec := { name := "storePlays", fn := fun _ => fun
  | [d1, d2] => { results := [.lit (.bool false)], args := [d1, d2] }
  | _ => none }
def StorePlaysWrongFalsely : Prop := storePlaysRow.holds Tryz.pinned (OpenSpec.ofChange storePlaysWrong)

/-- 'tourbillonlaw09.StoreDiffs': WHATEVER THE INPUT: true; the input reads as it did. -/
def storeDiffsSpec : ChangeSpec := { name := "storeDiffs", fn := fun _ => fun
  | [d1, d2, d3] => { results := [.lit (.bool true)], args := [d1, d2, d3] }
  | _ => none }
def storeDiffsRow : OpenClaim := { program := "ytfljnfdeboibhaagreat", sum := "ca99202f7528cdc93590f3117d41e19f895dbf8889ce05aef1dcea1be13de10f", func := "tourbillon/tourbillonlaw09.StoreDiffs", spec := "storeDiffs", inPlace := ["internal/bytealg.abigen_runtime_cmpstring"], unfollowed := true, recurses := true, apart := false }
def StoreDiffsSaid : Prop := storeDiffsRow.holds Tryz.pinned (OpenSpec.ofChange storeDiffsSpec)

/-- ITS FALSE NEIGHBOUR: 'it returns false'. Refute it at one input. -/
def storeDiffsWrong : ChangeSpec := { name := "storeDiffs", fn := fun _ => fun
  | [d1, d2, d3] => { results := [.lit (.bool false)], args := [d1, d2, d3] }
  | _ => none }
def StoreDiffsWrongFalsely : Prop := storeDiffsRow.holds Tryz.pinned (OpenSpec.ofChange storeDiffsWrong)

/-- 'tourbillonlaw09.StoreReads': WHATEVER THE INPUT: true; the input reads as it did. -/
def storeReadsSpec : ChangeSpec := { name := "storeReads", fn := fun _ => fun
  | [d1, d2, d3] => { results := [.lit (.bool true)], args := [d1, d2, d3] }
  | _ => none }
def storeReadsRow : OpenClaim := { program := "ytfljnfdeboibhaagreat", sum := "ca99202f7528cdc93590f3117d41e19f895dbf8889ce05aef1dcea1be13de10f", func := "tourbillon/tourbillonlaw09.StoreReads", spec := "storeReads", inPlace := ["internal/bytealg.abigen_runtime_cmpstring"], unfollowed := true, recurses := true, apart := false }
def StoreReadsSaid : Prop := storeReadsRow.holds Tryz.pinned (OpenSpec.ofChange storeReadsSpec)

/-- ITS FALSE NEIGHBOUR: 'it returns false'. Refute it at one input. -/
def storeReadsWrong : ChangeSpec := { name := "storeReads", fn := fun _ => fun
  | [d1, d2, d3] => { results := [.lit (.bool false)], args := [d1, d2, d3] }
  | _ => none }
def StoreReadsWrongFalsely : Prop := storeReadsRow.holds Tryz.pinned (OpenSpec.ofChange storeReadsWrong)

/-- 'tourbillonlaw09.StoreOwn': WHATEVER THE INPUT: true; the input reads as it did. -/
def storeOwnSpec : ChangeSpec := { name := "storeOwn", fn := fun _ => fun
  | [d] => { results := [.lit (.bool true)], args := [d] }
  | _ => none }
def storeOwnRow : OpenClaim := { program := "ytfljnfdeboibhaagreat", sum := "ca99202f7528cdc93590f3117d41e19f895dbf8889ce05aef1dcea1be13de10f", func := "tourbillon/tourbillonlaw09.StoreOwn", spec := "storeOwn", inPlace := ["internal/bytealg.abigen_runtime_cmpstring"], unfollowed := true, recurses := true, apart := false }
def StoreOwnSaid : Prop := storeOwnRow.holds Tryz.pinned (OpenSpec.ofChange storeOwnSpec)

/-- ITS FALSE NEIGHBOUR: 'it returns false'. Refute it at one input. -/
def storeOwnWrong : ChangeSpec := { name := "storeOwn", fn := fun _ => fun
  | [d] => { results := [.lit (.bool false)], args := [d] }
  | _ => none }
def StoreOwnWrongFalsely : Prop := storeOwnRow.holds Tryz.pinned (OpenSpec.ofChange storeOwnWrong)

/-- 'tourbillonlaw09.StoreRefused': WHATEVER THE INPUT: true; the input reads as it did. -/
def storeRefusedSpec : ChangeSpec := { name := "storeRefused", fn := fun _ => fun
  | [d1, d2, d3] => { results := [.lit (.bool true)], args := [d1, d2, d3] }
  | _ => none }
def storeRefusedRow : OpenClaim := { program := "ytfljnfdeboibhaagreat", sum := "ca99202f7528cdc93590f3117d41e19f895dbf8889ce05aef1dcea1be13de10f", func := "tourbillon/tourbillonlaw09.StoreRefused", spec := "storeRefused", inPlace := ["internal/bytealg.abigen_runtime_cmpstring"], unfollowed := true, recurses := true, apart := false }
def StoreRefusedSaid : Prop := storeRefusedRow.holds Tryz.pinned (OpenSpec.ofChange storeRefusedSpec)

/-- ITS FALSE NEIGHBOUR: 'it returns false'. Refute it at one input. -/
def storeRefusedWrong : ChangeSpec := { name := "storeRefused", fn := fun _ => fun
  | [d1, d2, d3] => { results := [.lit (.bool false)], args := [d1, d2, d3] }
  | _ => none }
def StoreRefusedWrongFalsely : Prop := storeRefusedRow.holds Tryz.pinned (OpenSpec.ofChange storeRefusedWrong)

/-- 'tourbillonlaw09.StoreNobody': WHATEVER THE INPUT: true; the input reads as it did. -/
def storeNobodySpec : ChangeSpec := { name := "storeNobody", fn := fun _ => fun
  | [d1, d2] => { results := [.lit (.bool true)], args := [d1, d2] }
  | _ => none }
def storeNobodyRow : OpenClaim := { program := "ytfljnfdeboibhaagreat", sum := "ca99202f7528cdc93590f3117d41e19f895dbf8889ce05aef1dcea1be13de10f", func := "tourbillon/tourbillonlaw09.StoreNobody", spec := "storeNobody", inPlace := ["internal/bytealg.abigen_runtime_cmpstring"], unfollowed := true, recurses := true, apart := false }
def StoreNobodySaid : Prop := storeNobodyRow.holds Tryz.pinned (OpenSpec.ofChange storeNobodySpec)

/-- ITS FALSE NEIGHBOUR: 'it returns false'. Refute it at one input. -/
def storeNobodyWrong : ChangeSpec := { name := "storeNobody", fn := fun _ => fun
  | [d1, d2] => { results := [.lit (.bool false)], args := [d1, d2] }
  | _ => none }
def StoreNobodyWrongFalsely : Prop := storeNobodyRow.holds Tryz.pinned (OpenSpec.ofChange storeNobodyWrong)

/-- 'tourbillontop.TopVersions': WHATEVER THE INPUT: true; the input reads as it did. -/
def topVersionsSpec : ChangeSpec := { name := "topVersions", fn := fun _ => fun
  | [d1, d2, d3] => { results := [.lit (.bool true)], args := [d1, d2, d3] }
  | _ => none }
def topVersionsRow : OpenClaim := { program := "ytfljnfdeboibhaagreat", sum := "ca99202f7528cdc93590f3117d41e19f895dbf8889ce05aef1dcea1be13de10f", func := "tourbillon/tourbillontop.TopVersions", spec := "topVersions", inPlace := ["internal/bytealg.abigen_runtime_cmpstring"], unfollowed := true, recurses := true, apart := false }
def TopVersionsSaid : Prop := topVersionsRow.holds Tryz.pinned (OpenSpec.ofChange topVersionsSpec)

/-- ITS FALSE NEIGHBOUR: 'it returns false'. Refute it at one input. -/
def topVersionsWrong : ChangeSpec := { name := "topVersions", fn := fun _ => fun
  | [d1, d2, d3] => { results := [.lit (.bool false)], args := [d1, d2, d3] }
  | _ => none }
def TopVersionsWrongFalsely : Prop := topVersionsRow.holds Tryz.pinned (OpenSpec.ofChange topVersionsWrong)

/- THE SECOND FORM. 'bulk': how many values and letters a reading holds, each counted each time it is reached (what is shared counts as often as it is met; a slice's spare places count too). A statement '..UptoSaid' is the law's where the arguments, and the package variables that the reading takes, are together of bulk at most 1048576: NARROWER than '..Said'. Prove '..Said' where nothing that the law and all that it calls make is longer than what came in: it says more and counts as full. Else prove '..UptoSaid'. A law counts once. -/
mutual
def uptoBulk {H : Type} : DataW H → Nat
  | .lit (.string bytes) => bytes.length + 1
  | .lit _ => 1
  | .nil => 1
  | .ptr d => uptoBulk d + 1
  | .slice elems spare => uptoBulkAll elems + uptoBulkAll spare + 1
  | .agg parts => uptoBulkAll parts + 1
  | .iface _ d => uptoBulk d + 1
  | .map entries => uptoBulkEntries entries + 1
  | .held _ => 1
def uptoBulkAll {H : Type} : List (DataW H) → Nat
  | [] => 0
  | d :: r => uptoBulk d + uptoBulkAll r
def uptoBulkEntries {H : Type} : List (Lit × DataW H) → Nat
  | [] => 0
  | x :: r => uptoBulkEntry x + uptoBulkEntries r
def uptoBulkEntry {H : Type} : Lit × DataW H → Nat
  | (.string bytes, d) => bytes.length + uptoBulk d + 1
  | (_, d) => uptoBulk d + 1
 end
def uptoSmall : (H : Type) → List (DataW H) → Bool := fun _ ds => decide (uptoBulkAll ds ≤ 1048576)
def OpenSpec.upto (s : _root_.Go.ChangeSpec) : _root_.Go.OpenSpec := { _root_.Go.OpenSpec.ofChange s with cond := some uptoSmall }

/-- 'tourbillonlaw09.StoreAgain', WHERE WHAT IT READS IS OF BULK AT MOST 1048576: true; the input reads as it did. -/
def storeAgainUptoRow : OpenClaim := { program := "ytfljnfdeboibhaagreat", sum := "ca99202f7528cdc93590f3117d41e19f895dbf8889ce05aef1dcea1be13de10f", func := "tourbillon/tourbillonlaw09.StoreAgain", spec := "storeAgain", unfollowed := true, recurses := true, apart := false, narrowed := true }
def StoreAgainUptoSaid : Prop := storeAgainUptoRow.holds Tryz.pinned (OpenSpec.upto storeAgainSpec)

/-- 'tourbillonlaw09.StoreCrashes', WHERE WHAT IT READS IS OF BULK AT MOST 1048576: true; the input reads as it did. -/
def storeCrashesUptoRow : OpenClaim := { program := "ytfljnfdeboibhaagreat", sum := "ca99202f7528cdc93590f3117d41e19f895dbf8889ce05aef1dcea1be13de10f", func := "tourbillon/tourbillonlaw09.StoreCrashes", spec := "storeCrashes", unfollowed := true, recurses := true, apart := false, narrowed := true }
def StoreCrashesUptoSaid : Prop := storeCrashesUptoRow.holds Tryz.pinned (OpenSpec.upto storeCrashesSpec)

/-- 'tourbillonlaw09.StoreCloned', WHERE WHAT IT READS IS OF BULK AT MOST 1048576: true; the input reads as it did. -/
def storeClonedUptoRow : OpenClaim := { program := "ytfljnfdeboibhaagreat", sum := "ca99202f7528cdc93590f3117d41e19f895dbf8889ce05aef1dcea1be13de10f", func := "tourbillon/tourbillonlaw09.StoreCloned", spec := "storeCloned", unfollowed := true, recurses := true, apart := false, narrowed := true }
def StoreClonedUptoSaid : Prop := storeClonedUptoRow.holds Tryz.pinned (OpenSpec.upto storeClonedSpec)

/-- 'tourbillonlaw09.StorePlays', WHERE WHAT IT READS IS OF BULK AT MOST 1048576: true; the input reads as it did. -/
def storePlaysUptoRow : OpenClaim := { program := "ytfljnfdeboibhaagreat", sum := "ca99202f7528cdc93590f3117d41e19f895dbf8889ce05aef1dcea1be13de10f", func := "tourbillon/tourbillonlaw09.StorePlays", spec := "storePlays", unfollowed := true, recurses := true, apart := false, narrowed := true }
def StorePlaysUptoSaid : Prop := storePlaysUptoRow.holds Tryz.pinned (OpenSpec.upto storePlaysSpec)

/-- 'tourbillonlaw09.StoreDiffs', WHERE WHAT IT READS IS OF BULK AT MOST 1048576: true; the input reads as it did. -/
def storeDiffsUptoRow : OpenClaim := { program := "ytfljnfdeboibhaagreat", sum := "ca99202f7528cdc93590f3117d41e19f895dbf8889ce05aef1dcea1be13de10f", func := "tourbillon/tourbillonlaw09.StoreDiffs", spec := "storeDiffs", inPlace := ["internal/bytealg.abigen_runtime_cmpstring"], unfollowed := true, recurses := true, apart := false, narrowed := true }
def StoreDiffsUptoSaid : Prop := storeDiffsUptoRow.holds Tryz.pinned (OpenSpec.upto storeDiffsSpec)

/-- 'tourbillonlaw09.StoreReads', WHERE WHAT IT READS IS OF BULK AT MOST 1048576: true; the input reads as it did. -/
def storeReadsUptoRow : OpenClaim := { program := "ytfljnfdeboibhaagreat", sum := "ca99202f7528cdc93590f3117d41e19f895dbf8889ce05aef1dcea1be13de10f", func := "tourbillon/tourbillonlaw09.StoreReads", spec := "storeReads", inPlace := ["internal/bytealg.abigen_runtime_cmpstring"], unfollowed := true, recurses := true, apart := false, narrowed := true }
def StoreReadsUptoSaid : Prop := storeReadsUptoRow.holds Tryz.pinned (OpenSpec.upto storeReadsSpec)

/-- 'tourbillonlaw09.StoreOwn', WHERE WHAT IT READS IS OF BULK AT MOST 1048576: true; the input reads as it did. -/
def storeOwnUptoRow : OpenClaim := { program := "ytfljnfdeboibhaagreat", sum := "ca99202f7528cdc93590f3117d41e19f895dbf8889ce05aef1dcea1be13de10f", func := "tourbillon/tourbillonlaw09.StoreOwn", spec := "storeOwn", inPlace := ["internal/bytealg.abigen_runtime_cmpstring"], unfollowed := true, recurses := true, apart := false, narrowed := true }
def StoreOwnUptoSaid : Prop := storeOwnUptoRow.holds Tryz.pinned (OpenSpec.upto storeOwnSpec)

/-- 'tourbillonlaw09.StoreRefused', WHERE WHAT IT READS IS OF BULK AT MOST 1048576: true; the input reads as it did. -/
def storeRefusedUptoRow : OpenClaim := { program := "ytfljnfdeboibhaagreat", sum := "ca99202f7528cdc93590f3117d41e19f895dbf8889ce05aef1dcea1be13de10f", func := "tourbillon/tourbillonlaw09.StoreRefused", spec := "storeRefused", inPlace := ["internal/bytealg.abigen_runtime_cmpstring"], unfollowed := true, recurses := true, apart := false, narrowed := true }
def StoreRefusedUptoSaid : Prop := storeRefusedUptoRow.holds Tryz.pinned (OpenSpec.upto storeRefusedSpec)

/-- 'tourbillonlaw09.StoreNobody', WHERE WHAT IT READS IS OF BULK AT MOST 1048576: true; the input reads as it did. -/
def storeNobodyUptoRow : OpenClaim := { program := "ytfljnfdeboibhaagreat", sum := "ca99202f7528cdc93590f3117d41e19f895dbf8889ce05aef1dcea1be13de10f", func := "tourbillon/tourbillonlaw09.StoreNobody", spec := "storeNobody", inPlace := ["internal/bytealg.abigen_runtime_cmpstring"], unfollowed := true, recurses := true, apart := false, narrowed := true }
def StoreNobodyUptoSaid : Prop := storeNobodyUptoRow.holds Tryz.pinned (OpenSpec.upto storeNobodySpec)

/-- 'tourbillontop.TopVersions', WHERE WHAT IT READS IS OF BULK AT MOST 1048576: true; the input reads as it did. -/
def topVersionsUptoRow : OpenClaim := { program := "ytfljnfdeboibhaagreat", sum := "ca99202f7528cdc93590f3117d41e19f895dbf8889ce05aef1dcea1be13de10f", func := "tourbillon/tourbillontop.TopVersions", spec := "topVersions", inPlace := ["internal/bytealg.abigen_runtime_cmpstring"], unfollowed := true, recurses := true, apart := false, narrowed := true }
def TopVersionsUptoSaid : Prop := topVersionsUptoRow.holds Tryz.pinned (OpenSpec.upto topVersionsSpec)

end Rows
end Go.Proofs.YtfljnfdeboibhaaGreat
