/-
  DERIVED. GIVEN WITH THE SEED: THE CARDS: each row of YtcjddfhhofoidaaDoorRows.lean that lists a variable, with what it lists TIED to the program's text (the seventh form; the later family's looks); each row that meets fmt, with fmt's text TOLD by the authors' own Lean function (tested against real Go, not proved from fmt's source: count such statements apart). THE CARD IS WHAT COUNTS. Prove the row's statement (the work); the ties are given (YtcjddfhhofoidaaDoorTie.lean); close each card by the builder's one call (the guide's Derived/Test/ToyasCard.lean, 'card_holds'). Laid BY PROGRAM, IN A SANDBOX (cutbox-door.mjs). By AI agents, Wed Nov 11 2026. No macro, syntax, notation, axiom, sorry.
-/
import Derived.Test.YtcjddfhhofoidaaDoorRows
import GoSem.ClaimSeven
namespace Go.Proofs.YtcjddfhhofoidaaDoor
namespace Rows

/-- THE TIED CARD OF 'tourbillonlaw05.ProbeBests'. -/
def probeBestsCard : Claim7 := { stood := { row := probeBestsRow, standIns := [], harness := (true, "38c1aa4ed9e0ce259c420741a4d7d6997ee23614cb19af7f4092c45993d9547e"), looks := false }, kinds := [], alts := [], laidByText := true, laidKinds := [.data, .data], laidTests := true, laidLooks := .later }
def ProbeBestsCardSaid : Prop := Claim7.holds Tryd.pinned (.plain (OpenSpec.ofChange probeBestsSpec)) probeBestsCard

/-- THE TIED CARD OF 'tourbillonlaw05.ProbeOptimal'. -/
def probeOptimalCard : Claim7 := { stood := { row := probeOptimalRow, standIns := [], harness := (true, "38c1aa4ed9e0ce259c420741a4d7d6997ee23614cb19af7f4092c45993d9547e"), looks := false }, kinds := [], alts := [], laidByText := true, laidKinds := [.data, .data], laidTests := true, laidLooks := .later }
def ProbeOptimalCardSaid : Prop := Claim7.holds Tryd.pinned (.plain (OpenSpec.ofChange probeOptimalSpec)) probeOptimalCard

/-- THE TIED CARD OF 'tourbillonlaw05.ProbeParts'. -/
def probePartsCard : Claim7 := { stood := { row := probePartsRow, standIns := [], harness := (true, "38c1aa4ed9e0ce259c420741a4d7d6997ee23614cb19af7f4092c45993d9547e"), looks := false }, kinds := [], alts := [], laidByText := true, laidKinds := [.data, .data], laidTests := true, laidLooks := .later }
def ProbePartsCardSaid : Prop := Claim7.holds Tryd.pinned (.plain (OpenSpec.ofChange probePartsSpec)) probePartsCard

/-- THE TIED CARD OF 'tourbillonlaw05.ProbeMore'. -/
def probeMoreCard : Claim7 := { stood := { row := probeMoreRow, standIns := [], harness := (true, "38c1aa4ed9e0ce259c420741a4d7d6997ee23614cb19af7f4092c45993d9547e"), looks := false }, kinds := [], alts := [], laidByText := true, laidKinds := [.data, .data], laidTests := true, laidLooks := .later }
def ProbeMoreCardSaid : Prop := Claim7.holds Tryd.pinned (.plain (OpenSpec.ofChange probeMoreSpec)) probeMoreCard

/-- THE TIED CARD OF 'tourbillonlaw05.ProbeCode'. -/
def probeCodeCard : Claim7 := { stood := { row := probeCodeRow, standIns := [], harness := (true, "38c1aa4ed9e0ce259c420741a4d7d6997ee23614cb19af7f4092c45993d9547e"), looks := false }, kinds := [], alts := [], laidByText := true, laidKinds := [.data, .data], laidTests := true, laidLooks := .later }
def ProbeCodeCardSaid : Prop := Claim7.holds Tryd.pinned (.plain (OpenSpec.ofChange probeCodeSpec)) probeCodeCard

/-- THE TIED CARD OF 'tourbillonlaw05.ProbeTimes'. -/
def probeTimesCard : Claim7 := { stood := { row := probeTimesRow, standIns := [], harness := (true, "38c1aa4ed9e0ce259c420741a4d7d6997ee23614cb19af7f4092c45993d9547e"), looks := false }, kinds := [], alts := [], laidByText := true, laidKinds := [.data, .data], laidTests := true, laidLooks := .later }
def ProbeTimesCardSaid : Prop := Claim7.holds Tryd.pinned (.plain (OpenSpec.ofChange probeTimesSpec)) probeTimesCard

/-- THE TIED CARD OF 'tourbillontop.TopBetween'. -/
def topBetweenCard : Claim7 := { stood := { row := topBetweenRow, standIns := [], harness := (true, "38c1aa4ed9e0ce259c420741a4d7d6997ee23614cb19af7f4092c45993d9547e"), looks := false }, kinds := [], alts := [], laidByText := true, laidKinds := [.data, .data], laidTests := true, laidLooks := .later }
def TopBetweenCardSaid : Prop := Claim7.holds Tryd.pinned (.plain (OpenSpec.ofChange topBetweenSpec)) topBetweenCard

/-- THE TIED CARD OF 'tourbillonlaw05.ProbeCodes'. -/
def probeCodesCard : Claim7 := { stood := { row := probeCodesRow, standIns := [], harness := (true, "38c1aa4ed9e0ce259c420741a4d7d6997ee23614cb19af7f4092c45993d9547e"), looks := false }, kinds := [], alts := [], laidByText := true, laidKinds := [.data, .data], laidTests := true, laidLooks := .later }
def ProbeCodesCardSaid : Prop := Claim7.holds Tryd.pinned (.plain (OpenSpec.ofChange probeCodesSpec)) probeCodesCard

/-- THE TIED CARD OF 'tourbillonlaw05.ProbeFloor'. -/
def probeFloorCard : Claim7 := { stood := { row := probeFloorRow, standIns := [], harness := (true, "38c1aa4ed9e0ce259c420741a4d7d6997ee23614cb19af7f4092c45993d9547e"), looks := false }, kinds := [], alts := [], laidByText := true, laidKinds := [.data, .data], laidTests := true, laidLooks := .later }
def ProbeFloorCardSaid : Prop := Claim7.holds Tryd.pinned (.plain (OpenSpec.ofChange probeFloorSpec)) probeFloorCard

/-- THE TIED CARD OF 'tourbillonlaw05.ProbeEnough'. -/
def probeEnoughCard : Claim7 := { stood := { row := probeEnoughRow, standIns := [], harness := (true, "38c1aa4ed9e0ce259c420741a4d7d6997ee23614cb19af7f4092c45993d9547e"), looks := false }, kinds := [], alts := [], laidByText := true, laidKinds := [.data, .data], laidTests := true, laidLooks := .later }
def ProbeEnoughCardSaid : Prop := Claim7.holds Tryd.pinned (.plain (OpenSpec.ofChange probeEnoughSpec)) probeEnoughCard

/-- THE TIED CARD OF 'tourbillonlaw05.ProbeReads'. -/
def probeReadsCard : Claim7 := { stood := { row := probeReadsRow, standIns := [], harness := (true, "38c1aa4ed9e0ce259c420741a4d7d6997ee23614cb19af7f4092c45993d9547e"), looks := false }, kinds := [], alts := [], laidByText := true, laidKinds := [.data, .data], laidTests := true, laidLooks := .later }
def ProbeReadsCardSaid : Prop := Claim7.holds Tryd.pinned (.plain (OpenSpec.ofChange probeReadsSpec)) probeReadsCard

/-- THE TIED CARD OF 'tourbillonlaw05.ProbeAparts'. -/
def probeApartsCard : Claim7 := { stood := { row := probeApartsRow, standIns := [], harness := (true, "38c1aa4ed9e0ce259c420741a4d7d6997ee23614cb19af7f4092c45993d9547e"), looks := false }, kinds := [], alts := [], laidByText := true, laidKinds := [.data, .data], laidTests := true, laidLooks := .later }
def ProbeApartsCardSaid : Prop := Claim7.holds Tryd.pinned (.plain (OpenSpec.ofChange probeApartsSpec)) probeApartsCard

/-- THE SECOND FORM's CARD OF 'tourbillonlaw05.ProbeBests'. -/
def probeBestsUptoCard : Claim7 := { stood := { row := probeBestsUptoRow, standIns := [], harness := (true, "38c1aa4ed9e0ce259c420741a4d7d6997ee23614cb19af7f4092c45993d9547e"), looks := false }, kinds := [], alts := [], laidByText := true, laidKinds := [.data, .data], laidTests := true, laidLooks := .later }
def ProbeBestsUptoCardSaid : Prop := Claim7.holds Tryd.pinned (.plain (OpenSpec.upto probeBestsSpec)) probeBestsUptoCard

/-- THE SECOND FORM's CARD OF 'tourbillonlaw05.ProbeOptimal'. -/
def probeOptimalUptoCard : Claim7 := { stood := { row := probeOptimalUptoRow, standIns := [], harness := (true, "38c1aa4ed9e0ce259c420741a4d7d6997ee23614cb19af7f4092c45993d9547e"), looks := false }, kinds := [], alts := [], laidByText := true, laidKinds := [.data, .data], laidTests := true, laidLooks := .later }
def ProbeOptimalUptoCardSaid : Prop := Claim7.holds Tryd.pinned (.plain (OpenSpec.upto probeOptimalSpec)) probeOptimalUptoCard

/-- THE SECOND FORM's CARD OF 'tourbillonlaw05.ProbeParts'. -/
def probePartsUptoCard : Claim7 := { stood := { row := probePartsUptoRow, standIns := [], harness := (true, "38c1aa4ed9e0ce259c420741a4d7d6997ee23614cb19af7f4092c45993d9547e"), looks := false }, kinds := [], alts := [], laidByText := true, laidKinds := [.data, .data], laidTests := true, laidLooks := .later }
def ProbePartsUptoCardSaid : Prop := Claim7.holds Tryd.pinned (.plain (OpenSpec.upto probePartsSpec)) probePartsUptoCard

/-- THE SECOND FORM's CARD OF 'tourbillonlaw05.ProbeMore'. -/
def probeMoreUptoCard : Claim7 := { stood := { row := probeMoreUptoRow, standIns := [], harness := (true, "38c1aa4ed9e0ce259c420741a4d7d6997ee23614cb19af7f4092c45993d9547e"), looks := false }, kinds := [], alts := [], laidByText := true, laidKinds := [.data, .data], laidTests := true, laidLooks := .later }
def ProbeMoreUptoCardSaid : Prop := Claim7.holds Tryd.pinned (.plain (OpenSpec.upto probeMoreSpec)) probeMoreUptoCard

/-- THE SECOND FORM's CARD OF 'tourbillonlaw05.ProbeCode'. -/
def probeCodeUptoCard : Claim7 := { stood := { row := probeCodeUptoRow, standIns := [], harness := (true, "38c1aa4ed9e0ce259c420741a4d7d6997ee23614cb19af7f4092c45993d9547e"), looks := false }, kinds := [], alts := [], laidByText := true, laidKinds := [.data, .data], laidTests := true, laidLooks := .later }
def ProbeCodeUptoCardSaid : Prop := Claim7.holds Tryd.pinned (.plain (OpenSpec.upto probeCodeSpec)) probeCodeUptoCard

/-- THE SECOND FORM's CARD OF 'tourbillonlaw05.ProbeTimes'. -/
def probeTimesUptoCard : Claim7 := { stood := { row := probeTimesUptoRow, standIns := [], harness := (true, "38c1aa4ed9e0ce259c420741a4d7d6997ee23614cb19af7f4092c45993d9547e"), looks := false }, kinds := [], alts := [], laidByText := true, laidKinds := [.data, .data], laidTests := true, laidLooks := .later }
def ProbeTimesUptoCardSaid : Prop := Claim7.holds Tryd.pinned (.plain (OpenSpec.upto probeTimesSpec)) probeTimesUptoCard

/-- THE SECOND FORM's CARD OF 'tourbillontop.TopBetween'. -/
def topBetweenUptoCard : Claim7 := { stood := { row := topBetweenUptoRow, standIns := [], harness := (true, "38c1aa4ed9e0ce259c420741a4d7d6997ee23614cb19af7f4092c45993d9547e"), looks := false }, kinds := [], alts := [], laidByText := true, laidKinds := [.data, .data], laidTests := true, laidLooks := .later }
def TopBetweenUptoCardSaid : Prop := Claim7.holds Tryd.pinned (.plain (OpenSpec.upto topBetweenSpec)) topBetweenUptoCard

/-- THE SECOND FORM's CARD OF 'tourbillonlaw05.ProbeCodes'. -/
def probeCodesUptoCard : Claim7 := { stood := { row := probeCodesUptoRow, standIns := [], harness := (true, "38c1aa4ed9e0ce259c420741a4d7d6997ee23614cb19af7f4092c45993d9547e"), looks := false }, kinds := [], alts := [], laidByText := true, laidKinds := [.data, .data], laidTests := true, laidLooks := .later }
def ProbeCodesUptoCardSaid : Prop := Claim7.holds Tryd.pinned (.plain (OpenSpec.upto probeCodesSpec)) probeCodesUptoCard

/-- THE SECOND FORM's CARD OF 'tourbillonlaw05.ProbeFloor'. -/
def probeFloorUptoCard : Claim7 := { stood := { row := probeFloorUptoRow, standIns := [], harness := (true, "38c1aa4ed9e0ce259c420741a4d7d6997ee23614cb19af7f4092c45993d9547e"), looks := false }, kinds := [], alts := [], laidByText := true, laidKinds := [.data, .data], laidTests := true, laidLooks := .later }
def ProbeFloorUptoCardSaid : Prop := Claim7.holds Tryd.pinned (.plain (OpenSpec.upto probeFloorSpec)) probeFloorUptoCard

/-- THE SECOND FORM's CARD OF 'tourbillonlaw05.ProbeEnough'. -/
def probeEnoughUptoCard : Claim7 := { stood := { row := probeEnoughUptoRow, standIns := [], harness := (true, "38c1aa4ed9e0ce259c420741a4d7d6997ee23614cb19af7f4092c45993d9547e"), looks := false }, kinds := [], alts := [], laidByText := true, laidKinds := [.data, .data], laidTests := true, laidLooks := .later }
def ProbeEnoughUptoCardSaid : Prop := Claim7.holds Tryd.pinned (.plain (OpenSpec.upto probeEnoughSpec)) probeEnoughUptoCard

/-- THE SECOND FORM's CARD OF 'tourbillonlaw05.ProbeReads'. -/
def probeReadsUptoCard : Claim7 := { stood := { row := probeReadsUptoRow, standIns := [], harness := (true, "38c1aa4ed9e0ce259c420741a4d7d6997ee23614cb19af7f4092c45993d9547e"), looks := false }, kinds := [], alts := [], laidByText := true, laidKinds := [.data, .data], laidTests := true, laidLooks := .later }
def ProbeReadsUptoCardSaid : Prop := Claim7.holds Tryd.pinned (.plain (OpenSpec.upto probeReadsSpec)) probeReadsUptoCard

/-- THE SECOND FORM's CARD OF 'tourbillonlaw05.ProbeAparts'. -/
def probeApartsUptoCard : Claim7 := { stood := { row := probeApartsUptoRow, standIns := [], harness := (true, "38c1aa4ed9e0ce259c420741a4d7d6997ee23614cb19af7f4092c45993d9547e"), looks := false }, kinds := [], alts := [], laidByText := true, laidKinds := [.data, .data], laidTests := true, laidLooks := .later }
def ProbeApartsUptoCardSaid : Prop := Claim7.holds Tryd.pinned (.plain (OpenSpec.upto probeApartsSpec)) probeApartsUptoCard
end Rows
end Go.Proofs.YtcjddfhhofoidaaDoor
