/-
  DERIVED. GIVEN WITH THE SEED: THE CARDS: each row of YtffcgpkbibijpaaGreatDoorRows.lean that lists a variable, with what it lists TIED to the program's text (the seventh form; the later family's looks); each row that meets fmt, with fmt's text TOLD by the authors' own Lean function (tested against real Go, not proved from fmt's source: count such statements apart). THE CARD IS WHAT COUNTS. Prove the row's statement (the work); the ties are given (YtffcgpkbibijpaaGreatDoorTie.lean); close each card by the builder's one call (the guide's Derived/Test/ToyasCard.lean, 'card_holds'). Laid BY PROGRAM, IN A SANDBOX (cutbox-door.mjs). By AI agents, Wed Nov 11 2026. No macro, syntax, notation, axiom, sorry.
-/
import Derived.Test.YtffcgpkbibijpaaGreatDoorRows
import GoSem.ClaimSeven
namespace Go.Proofs.YtffcgpkbibijpaaGreatDoor
namespace Rows

/-- THE TIED CARD OF 'cloisterlaw07.HeadBodies'. -/
def headBodiesCard : Claim7 := { stood := { row := headBodiesRow, standIns := [], harness := (true, "5303c299f3e2e7ed7fcee86e0eec97db8d0990b1f680e53d2699ba4c85921f20"), looks := true }, kinds := [], alts := [], laidByText := true, laidKinds := [.data, .data, .data, .data, .sentinel, .sentinel, .pinned], laidTests := true, laidLooks := .later }
def HeadBodiesCardSaid : Prop := Claim7.holds Tryz.pinned (.plain (OpenSpec.ofChange headBodiesSpec)) headBodiesCard

/-- THE TIED CARD OF 'cloisterlaw08.ParseAll'. -/
def parseAllCard : Claim7 := { stood := { row := parseAllRow, standIns := [], harness := (true, "5303c299f3e2e7ed7fcee86e0eec97db8d0990b1f680e53d2699ba4c85921f20"), looks := true }, kinds := [], alts := [], laidByText := true, laidKinds := [.data, .data, .data, .data, .sentinel, .sentinel, .pinned], laidTests := true, laidLooks := .later }
def ParseAllCardSaid : Prop := Claim7.holds Tryz.pinned (.plain (OpenSpec.ofChange parseAllSpec)) parseAllCard

/-- THE TIED CARD OF 'cloisterlaw08.ParseCuts'. -/
def parseCutsCard : Claim7 := { stood := { row := parseCutsRow, standIns := [], harness := (true, "5303c299f3e2e7ed7fcee86e0eec97db8d0990b1f680e53d2699ba4c85921f20"), looks := true }, kinds := [], alts := [], laidByText := true, laidKinds := [.data, .data, .data, .data, .sentinel, .sentinel, .pinned], laidTests := true, laidLooks := .later }
def ParseCutsCardSaid : Prop := Claim7.holds Tryz.pinned (.plain (OpenSpec.ofChange parseCutsSpec)) parseCutsCard

/-- THE TIED CARD OF 'cloisterlaw08.ParseBehind'. -/
def parseBehindCard : Claim7 := { stood := { row := parseBehindRow, standIns := [], harness := (true, "5303c299f3e2e7ed7fcee86e0eec97db8d0990b1f680e53d2699ba4c85921f20"), looks := true }, kinds := [], alts := [], laidByText := true, laidKinds := [.data, .data, .data, .data, .sentinel, .sentinel, .pinned], laidTests := true, laidLooks := .later }
def ParseBehindCardSaid : Prop := Claim7.holds Tryz.pinned (.plain (OpenSpec.ofChange parseBehindSpec)) parseBehindCard

/-- THE TIED CARD OF 'cloisterlaw08.ParseJoined'. -/
def parseJoinedCard : Claim7 := { stood := { row := parseJoinedRow, standIns := [], harness := (true, "5303c299f3e2e7ed7fcee86e0eec97db8d0990b1f680e53d2699ba4c85921f20"), looks := true }, kinds := [], alts := [], laidByText := true, laidKinds := [.data, .data, .data, .data, .sentinel, .sentinel, .pinned], laidTests := true, laidLooks := .later }
def ParseJoinedCardSaid : Prop := Claim7.holds Tryz.pinned (.plain (OpenSpec.ofChange parseJoinedSpec)) parseJoinedCard

/-- THE TIED CARD OF 'cloisterlaw08.ParseWrong'. -/
def parseWrongCard : Claim7 := { stood := { row := parseWrongRow, standIns := [], harness := (true, "5303c299f3e2e7ed7fcee86e0eec97db8d0990b1f680e53d2699ba4c85921f20"), looks := true }, kinds := [], alts := [], laidByText := true, laidKinds := [.data, .data, .data, .data, .sentinel, .sentinel, .pinned], laidTests := true, laidLooks := .later }
def ParseWrongCardSaid : Prop := Claim7.holds Tryz.pinned (.plain (OpenSpec.ofChange parseWrongSpec)) parseWrongCard

/-- THE TIED CARD OF 'cloisterlaw08.ParseLengths'. -/
def parseLengthsCard : Claim7 := { stood := { row := parseLengthsRow, standIns := [], harness := (true, "5303c299f3e2e7ed7fcee86e0eec97db8d0990b1f680e53d2699ba4c85921f20"), looks := true }, kinds := [], alts := [], laidByText := true, laidKinds := [.data, .data, .data, .data, .sentinel, .sentinel, .pinned], laidTests := true, laidLooks := .later }
def ParseLengthsCardSaid : Prop := Claim7.holds Tryz.pinned (.plain (OpenSpec.ofChange parseLengthsSpec)) parseLengthsCard

/-- THE TIED CARD OF 'cloisterlaw08.ParsePlays'. -/
def parsePlaysCard : Claim7 := { stood := { row := parsePlaysRow, standIns := [], harness := (true, "5303c299f3e2e7ed7fcee86e0eec97db8d0990b1f680e53d2699ba4c85921f20"), looks := true }, kinds := [], alts := [], laidByText := true, laidKinds := [.data, .data, .data, .data, .sentinel, .sentinel, .pinned], laidTests := true, laidLooks := .later }
def ParsePlaysCardSaid : Prop := Claim7.holds Tryz.pinned (.plain (OpenSpec.ofChange parsePlaysSpec)) parsePlaysCard

/-- THE TIED CARD OF 'cloisterlaw08.ParseNobody'. -/
def parseNobodyCard : Claim7 := { stood := { row := parseNobodyRow, standIns := [], harness := (true, "5303c299f3e2e7ed7fcee86e0eec97db8d0990b1f680e53d2699ba4c85921f20"), looks := true }, kinds := [], alts := [], laidByText := true, laidKinds := [.data, .data, .data, .data, .sentinel, .sentinel, .pinned], laidTests := true, laidLooks := .later }
def ParseNobodyCardSaid : Prop := Claim7.holds Tryz.pinned (.plain (OpenSpec.ofChange parseNobodySpec)) parseNobodyCard

/-- THE SECOND FORM's CARD OF 'cloisterlaw07.HeadBodies'. -/
def headBodiesUptoCard : Claim7 := { stood := { row := headBodiesUptoRow, standIns := [], harness := (true, "5303c299f3e2e7ed7fcee86e0eec97db8d0990b1f680e53d2699ba4c85921f20"), looks := true }, kinds := [], alts := [], laidByText := true, laidKinds := [.data, .data, .data, .data, .sentinel, .sentinel, .pinned], laidTests := true, laidLooks := .later }
def HeadBodiesUptoCardSaid : Prop := Claim7.holds Tryz.pinned (.plain (OpenSpec.upto headBodiesSpec)) headBodiesUptoCard

/-- THE SECOND FORM's CARD OF 'cloisterlaw08.ParseAll'. -/
def parseAllUptoCard : Claim7 := { stood := { row := parseAllUptoRow, standIns := [], harness := (true, "5303c299f3e2e7ed7fcee86e0eec97db8d0990b1f680e53d2699ba4c85921f20"), looks := true }, kinds := [], alts := [], laidByText := true, laidKinds := [.data, .data, .data, .data, .sentinel, .sentinel, .pinned], laidTests := true, laidLooks := .later }
def ParseAllUptoCardSaid : Prop := Claim7.holds Tryz.pinned (.plain (OpenSpec.upto parseAllSpec)) parseAllUptoCard

/-- THE SECOND FORM's CARD OF 'cloisterlaw08.ParseCuts'. -/
def parseCutsUptoCard : Claim7 := { stood := { row := parseCutsUptoRow, standIns := [], harness := (true, "5303c299f3e2e7ed7fcee86e0eec97db8d0990b1f680e53d2699ba4c85921f20"), looks := true }, kinds := [], alts := [], laidByText := true, laidKinds := [.data, .data, .data, .data, .sentinel, .sentinel, .pinned], laidTests := true, laidLooks := .later }
def ParseCutsUptoCardSaid : Prop := Claim7.holds Tryz.pinned (.plain (OpenSpec.upto parseCutsSpec)) parseCutsUptoCard

/-- THE SECOND FORM's CARD OF 'cloisterlaw08.ParseBehind'. -/
def parseBehindUptoCard : Claim7 := { stood := { row := parseBehindUptoRow, standIns := [], harness := (true, "5303c299f3e2e7ed7fcee86e0eec97db8d0990b1f680e53d2699ba4c85921f20"), looks := true }, kinds := [], alts := [], laidByText := true, laidKinds := [.data, .data, .data, .data, .sentinel, .sentinel, .pinned], laidTests := true, laidLooks := .later }
def ParseBehindUptoCardSaid : Prop := Claim7.holds Tryz.pinned (.plain (OpenSpec.upto parseBehindSpec)) parseBehindUptoCard

/-- THE SECOND FORM's CARD OF 'cloisterlaw08.ParseJoined'. -/
def parseJoinedUptoCard : Claim7 := { stood := { row := parseJoinedUptoRow, standIns := [], harness := (true, "5303c299f3e2e7ed7fcee86e0eec97db8d0990b1f680e53d2699ba4c85921f20"), looks := true }, kinds := [], alts := [], laidByText := true, laidKinds := [.data, .data, .data, .data, .sentinel, .sentinel, .pinned], laidTests := true, laidLooks := .later }
def ParseJoinedUptoCardSaid : Prop := Claim7.holds Tryz.pinned (.plain (OpenSpec.upto parseJoinedSpec)) parseJoinedUptoCard

/-- THE SECOND FORM's CARD OF 'cloisterlaw08.ParseWrong'. -/
def parseWrongUptoCard : Claim7 := { stood := { row := parseWrongUptoRow, standIns := [], harness := (true, "5303c299f3e2e7ed7fcee86e0eec97db8d0990b1f680e53d2699ba4c85921f20"), looks := true }, kinds := [], alts := [], laidByText := true, laidKinds := [.data, .data, .data, .data, .sentinel, .sentinel, .pinned], laidTests := true, laidLooks := .later }
def ParseWrongUptoCardSaid : Prop := Claim7.holds Tryz.pinned (.plain (OpenSpec.upto parseWrongSpec)) parseWrongUptoCard

/-- THE SECOND FORM's CARD OF 'cloisterlaw08.ParseLengths'. -/
def parseLengthsUptoCard : Claim7 := { stood := { row := parseLengthsUptoRow, standIns := [], harness := (true, "5303c299f3e2e7ed7fcee86e0eec97db8d0990b1f680e53d2699ba4c85921f20"), looks := true }, kinds := [], alts := [], laidByText := true, laidKinds := [.data, .data, .data, .data, .sentinel, .sentinel, .pinned], laidTests := true, laidLooks := .later }
def ParseLengthsUptoCardSaid : Prop := Claim7.holds Tryz.pinned (.plain (OpenSpec.upto parseLengthsSpec)) parseLengthsUptoCard

/-- THE SECOND FORM's CARD OF 'cloisterlaw08.ParsePlays'. -/
def parsePlaysUptoCard : Claim7 := { stood := { row := parsePlaysUptoRow, standIns := [], harness := (true, "5303c299f3e2e7ed7fcee86e0eec97db8d0990b1f680e53d2699ba4c85921f20"), looks := true }, kinds := [], alts := [], laidByText := true, laidKinds := [.data, .data, .data, .data, .sentinel, .sentinel, .pinned], laidTests := true, laidLooks := .later }
def ParsePlaysUptoCardSaid : Prop := Claim7.holds Tryz.pinned (.plain (OpenSpec.upto parsePlaysSpec)) parsePlaysUptoCard

/-- THE SECOND FORM's CARD OF 'cloisterlaw08.ParseNobody'. -/
def parseNobodyUptoCard : Claim7 := { stood := { row := parseNobodyUptoRow, standIns := [], harness := (true, "5303c299f3e2e7ed7fcee86e0eec97db8d0990b1f680e53d2699ba4c85921f20"), looks := true }, kinds := [], alts := [], laidByText := true, laidKinds := [.data, .data, .data, .data, .sentinel, .sentinel, .pinned], laidTests := true, laidLooks := .later }
def ParseNobodyUptoCardSaid : Prop := Claim7.holds Tryz.pinned (.plain (OpenSpec.upto parseNobodySpec)) parseNobodyUptoCard
end Rows
end Go.Proofs.YtffcgpkbibijpaaGreatDoor
