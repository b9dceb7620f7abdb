/-
  DERIVED. GIVEN WITH THE SEED: THE CARDS: each row of YtffcgpkbibijpaaDoorRows.lean that lists a variable, with what it lists TIED to the program's text (the seventh form; the later family's looks); each row that meets fmt, with fmt's text TOLD by the authors' own Lean function (tested against real Go, not proved from fmt's source: count such statements apart). THE CARD IS WHAT COUNTS. Prove the row's statement (the work); the ties are given (YtffcgpkbibijpaaDoorTie.lean); close each card by the builder's one call (the guide's Derived/Test/ToyasCard.lean, 'card_holds'). Laid BY PROGRAM, IN A SANDBOX (cutbox-door.mjs). By AI agents, Wed Nov 11 2026. No macro, syntax, notation, axiom, sorry.
-/
import Derived.Test.YtffcgpkbibijpaaDoorRows
import GoSem.ClaimSeven
namespace Go.Proofs.YtffcgpkbibijpaaDoor
namespace Rows

/-- THE TIED CARD OF 'cloisterlaw07.HeadParses'. -/
def headParsesCard : Claim7 := { stood := { row := headParsesRow, standIns := [], harness := (true, "a64c6e4f6acf6bac6c75471bffdf3c57d9a52ecad5f603a0fc2c0d84cbdf05b4"), looks := false }, kinds := [], alts := [], laidByText := true, laidKinds := [.data, .pinned], laidTests := true, laidLooks := .later }
def HeadParsesCardSaid : Prop := Claim7.holds Tryd.pinned (.plain (OpenSpec.ofChange headParsesSpec)) headParsesCard

/-- THE TIED CARD OF 'cloisterlaw07.HeadLimits'. -/
def headLimitsCard : Claim7 := { stood := { row := headLimitsRow, standIns := [], harness := (true, "a64c6e4f6acf6bac6c75471bffdf3c57d9a52ecad5f603a0fc2c0d84cbdf05b4"), looks := false }, kinds := [], alts := [], laidByText := true, laidKinds := [.data, .pinned], laidTests := true, laidLooks := .later }
def HeadLimitsCardSaid : Prop := Claim7.holds Tryd.pinned (.plain (OpenSpec.ofChange headLimitsSpec)) headLimitsCard

/-- THE TIED CARD OF 'cloisterlaw07.HeadPrints'. -/
def headPrintsCard : Claim7 := { stood := { row := headPrintsRow, standIns := [], harness := (true, "a64c6e4f6acf6bac6c75471bffdf3c57d9a52ecad5f603a0fc2c0d84cbdf05b4"), looks := false }, kinds := [], alts := [], laidByText := true, laidKinds := [.data, .data, .data, .data, .pinned], laidTests := true, laidLooks := .later }
def HeadPrintsCardSaid : Prop := Claim7.holds Tryd.pinned (.plain (OpenSpec.ofChange headPrintsSpec)) headPrintsCard

/-- THE TIED CARD OF 'cloisterlaw07.HeadBack'. -/
def headBackCard : Claim7 := { stood := { row := headBackRow, standIns := [], harness := (true, "a64c6e4f6acf6bac6c75471bffdf3c57d9a52ecad5f603a0fc2c0d84cbdf05b4"), looks := false }, kinds := [], alts := [], laidByText := true, laidKinds := [.data, .data, .data, .data, .pinned], laidTests := true, laidLooks := .later }
def HeadBackCardSaid : Prop := Claim7.holds Tryd.pinned (.plain (OpenSpec.ofChange headBackSpec)) headBackCard

/-- THE TIED CARD OF 'cloisterlaw07.HeadAgain'. -/
def headAgainCard : Claim7 := { stood := { row := headAgainRow, standIns := [], harness := (true, "a64c6e4f6acf6bac6c75471bffdf3c57d9a52ecad5f603a0fc2c0d84cbdf05b4"), looks := false }, kinds := [], alts := [], laidByText := true, laidKinds := [.data, .data, .data, .data, .pinned], laidTests := true, laidLooks := .later }
def HeadAgainCardSaid : Prop := Claim7.holds Tryd.pinned (.plain (OpenSpec.ofChange headAgainSpec)) headAgainCard

/-- THE TIED CARD OF 'cloisterlaw07.HeadLetters'. -/
def headLettersCard : Claim7 := { stood := { row := headLettersRow, standIns := [], harness := (true, "a64c6e4f6acf6bac6c75471bffdf3c57d9a52ecad5f603a0fc2c0d84cbdf05b4"), looks := false }, kinds := [], alts := [], laidByText := true, laidKinds := [.data, .data, .data, .data, .pinned], laidTests := true, laidLooks := .later }
def HeadLettersCardSaid : Prop := Claim7.holds Tryd.pinned (.plain (OpenSpec.ofChange headLettersSpec)) headLettersCard

/-- THE SECOND FORM's CARD OF 'cloisterlaw07.HeadParses'. -/
def headParsesUptoCard : Claim7 := { stood := { row := headParsesUptoRow, standIns := [], harness := (true, "a64c6e4f6acf6bac6c75471bffdf3c57d9a52ecad5f603a0fc2c0d84cbdf05b4"), looks := false }, kinds := [], alts := [], laidByText := true, laidKinds := [.data, .pinned], laidTests := true, laidLooks := .later }
def HeadParsesUptoCardSaid : Prop := Claim7.holds Tryd.pinned (.plain (OpenSpec.upto headParsesSpec)) headParsesUptoCard

/-- THE SECOND FORM's CARD OF 'cloisterlaw07.HeadLimits'. -/
def headLimitsUptoCard : Claim7 := { stood := { row := headLimitsUptoRow, standIns := [], harness := (true, "a64c6e4f6acf6bac6c75471bffdf3c57d9a52ecad5f603a0fc2c0d84cbdf05b4"), looks := false }, kinds := [], alts := [], laidByText := true, laidKinds := [.data, .pinned], laidTests := true, laidLooks := .later }
def HeadLimitsUptoCardSaid : Prop := Claim7.holds Tryd.pinned (.plain (OpenSpec.upto headLimitsSpec)) headLimitsUptoCard

/-- THE SECOND FORM's CARD OF 'cloisterlaw07.HeadPrints'. -/
def headPrintsUptoCard : Claim7 := { stood := { row := headPrintsUptoRow, standIns := [], harness := (true, "a64c6e4f6acf6bac6c75471bffdf3c57d9a52ecad5f603a0fc2c0d84cbdf05b4"), looks := false }, kinds := [], alts := [], laidByText := true, laidKinds := [.data, .data, .data, .data, .pinned], laidTests := true, laidLooks := .later }
def HeadPrintsUptoCardSaid : Prop := Claim7.holds Tryd.pinned (.plain (OpenSpec.upto headPrintsSpec)) headPrintsUptoCard

/-- THE SECOND FORM's CARD OF 'cloisterlaw07.HeadBack'. -/
def headBackUptoCard : Claim7 := { stood := { row := headBackUptoRow, standIns := [], harness := (true, "a64c6e4f6acf6bac6c75471bffdf3c57d9a52ecad5f603a0fc2c0d84cbdf05b4"), looks := false }, kinds := [], alts := [], laidByText := true, laidKinds := [.data, .data, .data, .data, .pinned], laidTests := true, laidLooks := .later }
def HeadBackUptoCardSaid : Prop := Claim7.holds Tryd.pinned (.plain (OpenSpec.upto headBackSpec)) headBackUptoCard

/-- THE SECOND FORM's CARD OF 'cloisterlaw07.HeadAgain'. -/
def headAgainUptoCard : Claim7 := { stood := { row := headAgainUptoRow, standIns := [], harness := (true, "a64c6e4f6acf6bac6c75471bffdf3c57d9a52ecad5f603a0fc2c0d84cbdf05b4"), looks := false }, kinds := [], alts := [], laidByText := true, laidKinds := [.data, .data, .data, .data, .pinned], laidTests := true, laidLooks := .later }
def HeadAgainUptoCardSaid : Prop := Claim7.holds Tryd.pinned (.plain (OpenSpec.upto headAgainSpec)) headAgainUptoCard

/-- THE SECOND FORM's CARD OF 'cloisterlaw07.HeadLetters'. -/
def headLettersUptoCard : Claim7 := { stood := { row := headLettersUptoRow, standIns := [], harness := (true, "a64c6e4f6acf6bac6c75471bffdf3c57d9a52ecad5f603a0fc2c0d84cbdf05b4"), looks := false }, kinds := [], alts := [], laidByText := true, laidKinds := [.data, .data, .data, .data, .pinned], laidTests := true, laidLooks := .later }
def HeadLettersUptoCardSaid : Prop := Claim7.holds Tryd.pinned (.plain (OpenSpec.upto headLettersSpec)) headLettersUptoCard
end Rows
end Go.Proofs.YtffcgpkbibijpaaDoor
