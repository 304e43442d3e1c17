/-
  DERIVED. GIVEN WITH THE SEED: THE CARDS: each row of YtoefgnnkajhmiaaGreatDoorRows.lean that lists a variable, with what it lists TIED to the program's text (the seventh form; the later family's looks); each row that meets fmt, with fmt's text TOLD by the authors' own Lean function (tested against real Go, not proved from fmt's source: count such statements apart). THE CARD IS WHAT COUNTS. Prove the row's statement (the work); the ties are given (YtoefgnnkajhmiaaGreatDoorTie.lean); close each card by the builder's one call (the guide's Derived/Test/ToyasCard.lean, 'card_holds'). Laid BY PROGRAM, IN A SANDBOX (cutbox-door.mjs). By AI agents, Wed Nov 11 2026. No macro, syntax, notation, axiom, sorry.
-/
import Derived.Test.YtoefgnnkajhmiaaGreatDoorRows
import GoSem.ClaimSeven
namespace Go.Proofs.YtoefgnnkajhmiaaGreatDoor
namespace Rows

/-- THE TIED CARD OF 'hardtacklaw40.FileTells'. -/
def fileTellsCard : Claim7 := { stood := { row := fileTellsRow, standIns := [], harness := (true, "f16b6b9eb857e29b10edcde1b4993d6157455c4bb400de9aa7e79bbfbea33c97"), looks := true }, kinds := [], alts := [], laidByText := true, laidKinds := [.data, .data, .data, .data, .sentinel, .sentinel, .pinned], laidTests := true, laidLooks := .later }
def FileTellsCardSaid : Prop := Claim7.holds Tryz.pinned (.plain (OpenSpec.ofChange fileTellsSpec)) fileTellsCard

/-- THE TIED CARD OF 'hardtacklaw40.FileBack'. -/
def fileBackCard : Claim7 := { stood := { row := fileBackRow, standIns := [], harness := (true, "f16b6b9eb857e29b10edcde1b4993d6157455c4bb400de9aa7e79bbfbea33c97"), looks := true }, kinds := [], alts := [], laidByText := true, laidKinds := [.data, .data, .data, .data, .sentinel, .sentinel, .pinned], laidTests := true, laidLooks := .later }
def FileBackCardSaid : Prop := Claim7.holds Tryz.pinned (.plain (OpenSpec.ofChange fileBackSpec)) fileBackCard

/-- THE TIED CARD OF 'hardtacktop.TopFiled'. -/
def topFiledCard : Claim7 := { stood := { row := topFiledRow, standIns := [], harness := (true, "f16b6b9eb857e29b10edcde1b4993d6157455c4bb400de9aa7e79bbfbea33c97"), looks := true }, kinds := [], alts := [], laidByText := true, laidKinds := [.data, .data, .data, .data, .sentinel, .sentinel, .pinned], laidTests := true, laidLooks := .later }
def TopFiledCardSaid : Prop := Claim7.holds Tryz.pinned (.plain (OpenSpec.ofChange topFiledSpec)) topFiledCard

/-- THE SECOND FORM's CARD OF 'hardtacklaw40.FileTells'. -/
def fileTellsUptoCard : Claim7 := { stood := { row := fileTellsUptoRow, standIns := [], harness := (true, "f16b6b9eb857e29b10edcde1b4993d6157455c4bb400de9aa7e79bbfbea33c97"), looks := true }, kinds := [], alts := [], laidByText := true, laidKinds := [.data, .data, .data, .data, .sentinel, .sentinel, .pinned], laidTests := true, laidLooks := .later }
def FileTellsUptoCardSaid : Prop := Claim7.holds Tryz.pinned (.plain (OpenSpec.upto fileTellsSpec)) fileTellsUptoCard

/-- THE SECOND FORM's CARD OF 'hardtacklaw40.FileBack'. -/
def fileBackUptoCard : Claim7 := { stood := { row := fileBackUptoRow, standIns := [], harness := (true, "f16b6b9eb857e29b10edcde1b4993d6157455c4bb400de9aa7e79bbfbea33c97"), looks := true }, kinds := [], alts := [], laidByText := true, laidKinds := [.data, .data, .data, .data, .sentinel, .sentinel, .pinned], laidTests := true, laidLooks := .later }
def FileBackUptoCardSaid : Prop := Claim7.holds Tryz.pinned (.plain (OpenSpec.upto fileBackSpec)) fileBackUptoCard

/-- THE SECOND FORM's CARD OF 'hardtacktop.TopFiled'. -/
def topFiledUptoCard : Claim7 := { stood := { row := topFiledUptoRow, standIns := [], harness := (true, "f16b6b9eb857e29b10edcde1b4993d6157455c4bb400de9aa7e79bbfbea33c97"), looks := true }, kinds := [], alts := [], laidByText := true, laidKinds := [.data, .data, .data, .data, .sentinel, .sentinel, .pinned], laidTests := true, laidLooks := .later }
def TopFiledUptoCardSaid : Prop := Claim7.holds Tryz.pinned (.plain (OpenSpec.upto topFiledSpec)) topFiledUptoCard
end Rows
end Go.Proofs.YtoefgnnkajhmiaaGreatDoor
