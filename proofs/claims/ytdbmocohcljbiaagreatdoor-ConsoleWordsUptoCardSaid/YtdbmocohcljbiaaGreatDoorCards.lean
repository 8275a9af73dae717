/-
  DERIVED. GIVEN WITH THE SEED: THE CARDS: each row of YtdbmocohcljbiaaGreatDoorRows.lean that lists a variable, with what it lists TIED to the program's text (the seventh form; the later family's looks); each row that meets fmt, with fmt's text TOLD by the authors' own Lean function (tested against real Go, not proved from fmt's source: count such statements apart). THE CARD IS WHAT COUNTS. Prove the row's statement (the work); the ties are given (YtdbmocohcljbiaaGreatDoorTie.lean); close each card by the builder's one call (the guide's Derived/Test/ToyasCard.lean, 'card_holds'). Laid BY PROGRAM, IN A SANDBOX (cutbox-door.mjs). By AI agents, Wed Nov 11 2026. No macro, syntax, notation, axiom, sorry.
-/
import Derived.Test.YtdbmocohcljbiaaGreatDoorRows
import GoSem.ClaimSeven
namespace Go.Proofs.YtdbmocohcljbiaaGreatDoor
namespace Rows

/-- THE TIED CARD OF 'perilunelaw37.ConsoleWords'. -/
def consoleWordsCard : Claim7 := { stood := { row := consoleWordsRow, standIns := [], harness := (true, "0041c607a5147cd7c226c8584b90f1011646490d5ec91cc45c42e64fc03e949b"), looks := true }, kinds := [], alts := [], laidByText := true, laidKinds := [.data, .data, .data, .data, .data, .pinned], laidTests := true, laidLooks := .later }
def ConsoleWordsCardSaid : Prop := Claim7.holds Tryz.pinned (.plain (OpenSpec.ofChange consoleWordsSpec)) consoleWordsCard

/-- THE TIED CARD OF 'perilunelaw37.ConsoleNumbers'. -/
def consoleNumbersCard : Claim7 := { stood := { row := consoleNumbersRow, standIns := [], harness := (true, "0041c607a5147cd7c226c8584b90f1011646490d5ec91cc45c42e64fc03e949b"), looks := true }, kinds := [], alts := [], laidByText := true, laidKinds := [.data, .data, .data, .data, .data, .pinned], laidTests := true, laidLooks := .later }
def ConsoleNumbersCardSaid : Prop := Claim7.holds Tryz.pinned (.plain (OpenSpec.ofChange consoleNumbersSpec)) consoleNumbersCard

/-- THE TIED CARD OF 'perilunelaw37.ConsoleKnown'. -/
def consoleKnownCard : Claim7 := { stood := { row := consoleKnownRow, standIns := [], harness := (true, "0041c607a5147cd7c226c8584b90f1011646490d5ec91cc45c42e64fc03e949b"), looks := true }, kinds := [], alts := [], laidByText := true, laidKinds := [.data, .data, .data, .data, .data, .pinned], laidTests := true, laidLooks := .later }
def ConsoleKnownCardSaid : Prop := Claim7.holds Tryz.pinned (.plain (OpenSpec.ofChange consoleKnownSpec)) consoleKnownCard

/-- THE SECOND FORM's CARD OF 'perilunelaw37.ConsoleWords'. -/
def consoleWordsUptoCard : Claim7 := { stood := { row := consoleWordsUptoRow, standIns := [], harness := (true, "0041c607a5147cd7c226c8584b90f1011646490d5ec91cc45c42e64fc03e949b"), looks := true }, kinds := [], alts := [], laidByText := true, laidKinds := [.data, .data, .data, .data, .data, .pinned], laidTests := true, laidLooks := .later }
def ConsoleWordsUptoCardSaid : Prop := Claim7.holds Tryz.pinned (.plain (OpenSpec.upto consoleWordsSpec)) consoleWordsUptoCard

/-- THE SECOND FORM's CARD OF 'perilunelaw37.ConsoleNumbers'. -/
def consoleNumbersUptoCard : Claim7 := { stood := { row := consoleNumbersUptoRow, standIns := [], harness := (true, "0041c607a5147cd7c226c8584b90f1011646490d5ec91cc45c42e64fc03e949b"), looks := true }, kinds := [], alts := [], laidByText := true, laidKinds := [.data, .data, .data, .data, .data, .pinned], laidTests := true, laidLooks := .later }
def ConsoleNumbersUptoCardSaid : Prop := Claim7.holds Tryz.pinned (.plain (OpenSpec.upto consoleNumbersSpec)) consoleNumbersUptoCard

/-- THE SECOND FORM's CARD OF 'perilunelaw37.ConsoleKnown'. -/
def consoleKnownUptoCard : Claim7 := { stood := { row := consoleKnownUptoRow, standIns := [], harness := (true, "0041c607a5147cd7c226c8584b90f1011646490d5ec91cc45c42e64fc03e949b"), looks := true }, kinds := [], alts := [], laidByText := true, laidKinds := [.data, .data, .data, .data, .data, .pinned], laidTests := true, laidLooks := .later }
def ConsoleKnownUptoCardSaid : Prop := Claim7.holds Tryz.pinned (.plain (OpenSpec.upto consoleKnownSpec)) consoleKnownUptoCard
end Rows
end Go.Proofs.YtdbmocohcljbiaaGreatDoor
