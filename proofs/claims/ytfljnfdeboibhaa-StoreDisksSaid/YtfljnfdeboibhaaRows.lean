/-
  No cell of these rows narrows 'for every input' (looked for: loops, veiled, ifaces, maps, wideKeys, modest, calm, conditions, laid).
  DERIVED. THE GIVEN ROWS OF THIS SEAT. 7 by the template 'for every input the law returns true; each argument reads behind the call as it read before'; 0 by the template 'total and deterministic' (their statements: YtfljnfdeboibhaaTotals.lean).
  GIVEN WITH THE SEED: the statements are not yours to turn. If you find one false, say at which input.
  Laid BY PROGRAM, IN A SANDBOX (cutbox-rows.mjs): the forced cells as the released guide's own fill.sh prints them over the translation 8704905bff194241… (all of the seat's roots in one cut). By AI agents, Wed Nov 11 2026. No macro, syntax, notation, axiom, sorry.
-/
import Derived.Test.YtfljnfdeboibhaaChecked
import GoSem.Claim
import GoSem.ClaimJoined
import GoSem.ClaimMapViews
import Derived.JoinedTies
import Derived.KernelRfl
namespace Go.Proofs.Ytfljnfdeboibhaa
/- THE CELL 'sum', in the pinned program and in every row, IS THE sha256 OF THE DUMP (.gsa) THAT YtfljnfdeboibhaaProg.lean LOADS. Nothing in Lean hashes anything: it is a label: what it is worth is what the hold of that sum in a sandbox is worth. -/
noncomputable def Try.pinned : Pinned := { name := "ytfljnfdeboibhaa", sum := "8704905bff1942414165d38f561eef3a3e9a69cceb434743e03ae53b5e6175e0", checked := Try.checked }
namespace Rows
def none {H : Type} : Left H := { results := [], args := [] }

/-- 'tourbillonlaw09.StoreTakes': WHATEVER THE INPUT: true; the input reads as it did. -/
def storeTakesSpec : ChangeSpec := { name := "storeTakes", fn := fun _ => fun
  | [d1, d2] => { results := [.lit (.bool true)], args := [d1, d2] }
  | _ => none }
def storeTakesRow : OpenClaim := { program := "ytfljnfdeboibhaa", sum := "8704905bff1942414165d38f561eef3a3e9a69cceb434743e03ae53b5e6175e0", func := "tourbillon/tourbillonlaw09.StoreTakes", spec := "storeTakes", unfollowed := true, recurses := true, apart := false }
def StoreTakesSaid : Prop := storeTakesRow.holds Try.pinned (OpenSpec.ofChange storeTakesSpec)

/-- ITS FALSE NEIGHBOUR: 'it returns false'. Refute it at one input. -/
def storeTakesWrong : ChangeSpec := { name := "storeTakes", fn := fun _ => fun
  | [d1, d2] => { results := [.lit (.bool false)], args := [d1, d2] }
  | _ => none }
def StoreTakesWrongFalsely : Prop := storeTakesRow.holds Try.pinned (OpenSpec.ofChange storeTakesWrong)

/-- 'tourbillonlaw09.StoreKept': WHATEVER THE INPUT: true; the input reads as it did. -/
def storeKeptSpec : ChangeSpec := { name := "storeKept", fn := fun _ => fun
  | [d1, d2, d3] => { results := [.lit (.bool true)], args := [d1, d2, d3] }
  | _ => none }
def storeKeptRow : OpenClaim := { program := "ytfljnfdeboibhaa", sum := "8704905bff1942414165d38f561eef3a3e9a69cceb434743e03ae53b5e6175e0", func := "tourbillon/tourbillonlaw09.StoreKept", spec := "storeKept", unfollowed := true, recurses := true, apart := false }
def StoreKeptSaid : Prop := storeKeptRow.holds Try.pinned (OpenSpec.ofChange storeKeptSpec)

/-- ITS FALSE NEIGHBOUR: 'it returns false'. Refute it at one input. -/
def storeKeptWrong : ChangeSpec := { name := "storeKept", fn := fun _ => fun
  | [d1, d2, d3] => { results := [.lit (.bool false)], args := [d1, d2, d3] }
  | _ => none }
def StoreKeptWrongFalsely : Prop := storeKeptRow.holds Try.pinned (OpenSpec.ofChange storeKeptWrong)

/-- 'tourbillonlaw09.StoreFull': WHATEVER THE INPUT: true; the input reads as it did. -/
def storeFullSpec : ChangeSpec := { name := "storeFull", fn := fun _ => fun
  | [d1, d2] => { results := [.lit (.bool true)], args := [d1, d2] }
  | _ => none }
def storeFullRow : OpenClaim := { program := "ytfljnfdeboibhaa", sum := "8704905bff1942414165d38f561eef3a3e9a69cceb434743e03ae53b5e6175e0", func := "tourbillon/tourbillonlaw09.StoreFull", spec := "storeFull", unfollowed := true, recurses := true, apart := false }
def StoreFullSaid : Prop := storeFullRow.holds Try.pinned (OpenSpec.ofChange storeFullSpec)

/-- ITS FALSE NEIGHBOUR: 'it returns false'. Refute it at one input. -/
def storeFullWrong : ChangeSpec := { name := "storeFull", fn := fun _ => fun
  | [d1, d2] => { results := [.lit (.bool false)], args := [d1, d2] }
  | _ => none }
def StoreFullWrongFalsely : Prop := storeFullRow.holds Try.pinned (OpenSpec.ofChange storeFullWrong)

/-- 'tourbillonlaw09.StoreRanged': WHATEVER THE INPUT: true; the input reads as it did. -/
def storeRangedSpec : ChangeSpec := { name := "storeRanged", fn := fun _ => fun
  | [d1, d2, d3] => { results := [.lit (.bool true)], args := [d1, d2, d3] }
  | _ => none }
def storeRangedRow : OpenClaim := { program := "ytfljnfdeboibhaa", sum := "8704905bff1942414165d38f561eef3a3e9a69cceb434743e03ae53b5e6175e0", func := "tourbillon/tourbillonlaw09.StoreRanged", spec := "storeRanged", unfollowed := true, recurses := true, apart := false }
def StoreRangedSaid : Prop := storeRangedRow.holds Try.pinned (OpenSpec.ofChange storeRangedSpec)

/-- ITS FALSE NEIGHBOUR: 'it returns false'. Refute it at one input. -/
def storeRangedWrong : ChangeSpec := { name := "storeRanged", fn := fun _ => fun
  | [d1, d2, d3] => { results := [.lit (.bool false)], args := [d1, d2, d3] }
  | _ => none }
def StoreRangedWrongFalsely : Prop := storeRangedRow.holds Try.pinned (OpenSpec.ofChange storeRangedWrong)

/-- 'tourbillonlaw09.StoreOpens': WHATEVER THE INPUT: true; the input reads as it did. -/
def storeOpensSpec : ChangeSpec := { name := "storeOpens", fn := fun _ => fun
  | [d1, d2, d3] => { results := [.lit (.bool true)], args := [d1, d2, d3] }
  | _ => none }
def storeOpensRow : OpenClaim := { program := "ytfljnfdeboibhaa", sum := "8704905bff1942414165d38f561eef3a3e9a69cceb434743e03ae53b5e6175e0", func := "tourbillon/tourbillonlaw09.StoreOpens", spec := "storeOpens", unfollowed := true, recurses := true, apart := false }
def StoreOpensSaid : Prop := storeOpensRow.holds Try.pinned (OpenSpec.ofChange storeOpensSpec)

/-- ITS FALSE NEIGHBOUR: 'it returns false'. Refute it at one input. -/
def storeOpensWrong : ChangeSpec := { name := "storeOpens", fn := fun _ => fun
  | [d1, d2, d3] => { results := [.lit (.bool false)], args := [d1, d2, d3] }
  | _ => none }
def StoreOpensWrongFalsely : Prop := storeOpensRow.holds Try.pinned (OpenSpec.ofChange storeOpensWrong)

/-- 'tourbillonlaw09.StoreDisks': WHATEVER THE INPUT: true; the input reads as it did. -/
def storeDisksSpec : ChangeSpec := { name := "storeDisks", fn := fun _ => fun
  | [d1, d2] => { results := [.lit (.bool true)], args := [d1, d2] }
  | _ => none }
def storeDisksRow : OpenClaim := { program := "ytfljnfdeboibhaa", sum := "8704905bff1942414165d38f561eef3a3e9a69cceb434743e03ae53b5e6175e0", func := "tourbillon/tourbillonlaw09.StoreDisks", spec := "storeDisks", unfollowed := true, recurses := true, apart := false }
def StoreDisksSaid : Prop := storeDisksRow.holds Try.pinned (OpenSpec.ofChange storeDisksSpec)

/-- ITS FALSE NEIGHBOUR: 'it returns false'. Refute it at one input. -/
def storeDisksWrong : ChangeSpec := { name := "storeDisks", fn := fun _ => fun
  | [d1, d2] => { results := [.lit (.bool false)], args := [d1, d2] }
  | _ => none }
def StoreDisksWrongFalsely : Prop := storeDisksRow.holds Try.pinned (OpenSpec.ofChange storeDisksWrong)

/-- 'tourbillonlaw09.StoreMade': WHATEVER THE INPUT: true; the input reads as it did. -/
def storeMadeSpec : ChangeSpec := { name := "storeMade", fn := fun _ => fun
  | [d1, d2, d3] => { results := [.lit (.bool true)], args := [d1, d2, d3] }
  | _ => none }
def storeMadeRow : OpenClaim := { program := "ytfljnfdeboibhaa", sum := "8704905bff1942414165d38f561eef3a3e9a69cceb434743e03ae53b5e6175e0", func := "tourbillon/tourbillonlaw09.StoreMade", spec := "storeMade", unfollowed := true, recurses := true, apart := false }
def StoreMadeSaid : Prop := storeMadeRow.holds Try.pinned (OpenSpec.ofChange storeMadeSpec)

/-- ITS FALSE NEIGHBOUR: 'it returns false'. Refute it at one input. -/
def storeMadeWrong : ChangeSpec := { name := "storeMade", fn := fun _ => fun
  | [d1, d2, d3] => { results := [.lit (.bool false)], args := [d1, d2, d3] }
  | _ => none }
def StoreMadeWrongFalsely : Prop := storeMadeRow.holds Try.pinned (OpenSpec.ofChange storeMadeWrong)

/- THE SECOND FORM. 'bulk': how many values and letters a reading holds, each counted each time it is reached (what is shared counts as often as it is met; a slice's spare places count too). A statement '..UptoSaid' is the law's where the arguments, and the package variables that the reading takes, are together of bulk at most 1048576: NARROWER than '..Said'. Prove '..Said' where nothing that the law and all that it calls make is longer than what came in: it says more and counts as full. Else prove '..UptoSaid'. A law counts once. -/
mutual
def uptoBulk {H : Type} : DataW H → Nat
  | .lit (.string bytes) => bytes.length + 1
  | .lit _ => 1
  | .nil => 1
  | .ptr d => uptoBulk d + 1
  | .slice elems spare => uptoBulkAll elems + uptoBulkAll spare + 1
  | .agg parts => uptoBulkAll parts + 1
  | .iface _ d => uptoBulk d + 1
  | .map entries => uptoBulkEntries entries + 1
  | .held _ => 1
def uptoBulkAll {H : Type} : List (DataW H) → Nat
  | [] => 0
  | d :: r => uptoBulk d + uptoBulkAll r
def uptoBulkEntries {H : Type} : List (Lit × DataW H) → Nat
  | [] => 0
  | x :: r => uptoBulkEntry x + uptoBulkEntries r
def uptoBulkEntry {H : Type} : Lit × DataW H → Nat
  | (.string bytes, d) => bytes.length + uptoBulk d + 1
  | (_, d) => uptoBulk d + 1
 end
def uptoSmall : (H : Type) → List (DataW H) → Bool := fun _ ds => decide (uptoBulkAll ds ≤ 1048576)
def OpenSpec.upto (s : _root_.Go.ChangeSpec) : _root_.Go.OpenSpec := { _root_.Go.OpenSpec.ofChange s with cond := some uptoSmall }

/-- 'tourbillonlaw09.StoreTakes', WHERE WHAT IT READS IS OF BULK AT MOST 1048576: true; the input reads as it did. -/
def storeTakesUptoRow : OpenClaim := { program := "ytfljnfdeboibhaa", sum := "8704905bff1942414165d38f561eef3a3e9a69cceb434743e03ae53b5e6175e0", func := "tourbillon/tourbillonlaw09.StoreTakes", spec := "storeTakes", unfollowed := true, recurses := true, apart := false, narrowed := true }
def StoreTakesUptoSaid : Prop := storeTakesUptoRow.holds Try.pinned (OpenSpec.upto storeTakesSpec)

/-- 'tourbillonlaw09.StoreKept', WHERE WHAT IT READS IS OF BULK AT MOST 1048576: true; the input reads as it did. -/
def storeKeptUptoRow : OpenClaim := { program := "ytfljnfdeboibhaa", sum := "8704905bff1942414165d38f561eef3a3e9a69cceb434743e03ae53b5e6175e0", func := "tourbillon/tourbillonlaw09.StoreKept", spec := "storeKept", unfollowed := true, recurses := true, apart := false, narrowed := true }
def StoreKeptUptoSaid : Prop := storeKeptUptoRow.holds Try.pinned (OpenSpec.upto storeKeptSpec)

/-- 'tourbillonlaw09.StoreFull', WHERE WHAT IT READS IS OF BULK AT MOST 1048576: true; the input reads as it did. -/
def storeFullUptoRow : OpenClaim := { program := "ytfljnfdeboibhaa", sum := "8704905bff1942414165d38f561eef3a3e9a69cceb434743e03ae53b5e6175e0", func := "tourbillon/tourbillonlaw09.StoreFull", spec := "storeFull", unfollowed := true, recurses := true, apart := false, narrowed := true }
def StoreFullUptoSaid : Prop := storeFullUptoRow.holds Try.pinned (OpenSpec.upto storeFullSpec)

/-- 'tourbillonlaw09.StoreRanged', WHERE WHAT IT READS IS OF BULK AT MOST 1048576: true; the input reads as it did. -/
def storeRangedUptoRow : OpenClaim := { program := "ytfljnfdeboibhaa", sum := "8704905bff1942414165d38f561eef3a3e9a69cceb434743e03ae53b5e6175e0", func := "tourbillon/tourbillonlaw09.StoreRanged", spec := "storeRanged", unfollowed := true, recurses := true, apart := false, narrowed := true }
def StoreRangedUptoSaid : Prop := storeRangedUptoRow.holds Try.pinned (OpenSpec.upto storeRangedSpec)

/-- 'tourbillonlaw09.StoreOpens', WHERE WHAT IT READS IS OF BULK AT MOST 1048576: true; the input reads as it did. -/
def storeOpensUptoRow : OpenClaim := { program := "ytfljnfdeboibhaa", sum := "8704905bff1942414165d38f561eef3a3e9a69cceb434743e03ae53b5e6175e0", func := "tourbillon/tourbillonlaw09.StoreOpens", spec := "storeOpens", unfollowed := true, recurses := true, apart := false, narrowed := true }
def StoreOpensUptoSaid : Prop := storeOpensUptoRow.holds Try.pinned (OpenSpec.upto storeOpensSpec)

/-- 'tourbillonlaw09.StoreDisks', WHERE WHAT IT READS IS OF BULK AT MOST 1048576: true; the input reads as it did. -/
def storeDisksUptoRow : OpenClaim := { program := "ytfljnfdeboibhaa", sum := "8704905bff1942414165d38f561eef3a3e9a69cceb434743e03ae53b5e6175e0", func := "tourbillon/tourbillonlaw09.StoreDisks", spec := "storeDisks", unfollowed := true, recurses := true, apart := false, narrowed := true }
def StoreDisksUptoSaid : Prop := storeDisksUptoRow.holds Try.pinned (OpenSpec.upto storeDisksSpec)

/-- 'tourbillonlaw09.StoreMade', WHERE WHAT IT READS IS OF BULK AT MOST 1048576: true; the input reads as it did. -/
def storeMadeUptoRow : OpenClaim := { program := "ytfljnfdeboibhaa", sum := "8704905bff1942414165d38f561eef3a3e9a69cceb434743e03ae53b5e6175e0", func := "tourbillon/tourbillonlaw09.StoreMade", spec := "storeMade", unfollowed := true, recurses := true, apart := false, narrowed := true }
def StoreMadeUptoSaid : Prop := storeMadeUptoRow.holds Try.pinned (OpenSpec.upto storeMadeSpec)

end Rows
end Go.Proofs.Ytfljnfdeboibhaa
