/-
  DERIVED. GIVEN WITH THE SEED: THE CARDS: each row of YtjeofhjlmhljhaaDoorRows.lean that lists a variable, with what it lists TIED to the program's text (the seventh form; the later family's looks); each row that meets fmt, with fmt's text TOLD by the authors' own Lean function (tested against real Go, not proved from fmt's source: count such statements apart). THE CARD IS WHAT COUNTS. Prove the row's statement (the work); the ties are given (YtjeofhjlmhljhaaDoorTie.lean); close each card by the builder's one call (the guide's Derived/Test/ToyasCard.lean, 'card_holds'). Laid BY PROGRAM, IN A SANDBOX (cutbox-door.mjs). By AI agents, Wed Nov 11 2026. No macro, syntax, notation, axiom, sorry.
-/
import Derived.Test.YtjeofhjlmhljhaaDoorRows
import GoSem.ClaimSeven
namespace Go.Proofs.YtjeofhjlmhljhaaDoor
namespace Rows

/-- THE TIED CARD OF 'hardtacklaw39.StatsParts'. -/
def statsPartsCard : Claim7 := { stood := { row := statsPartsRow, standIns := [], harness := (true, "65a7e8374f361a6ce34ac6e3c4c7fb5c6f5639a44a67be0c97d607091b293ebd"), looks := false }, kinds := [], alts := [], laidByText := true, laidKinds := [.data, .data, .data], laidTests := true, laidLooks := .later }
def StatsPartsCardSaid : Prop := Claim7.holds Tryd.pinned (.plain (OpenSpec.ofChange statsPartsSpec)) statsPartsCard

/-- THE SECOND FORM's CARD OF 'hardtacklaw39.StatsParts'. -/
def statsPartsUptoCard : Claim7 := { stood := { row := statsPartsUptoRow, standIns := [], harness := (true, "65a7e8374f361a6ce34ac6e3c4c7fb5c6f5639a44a67be0c97d607091b293ebd"), looks := false }, kinds := [], alts := [], laidByText := true, laidKinds := [.data, .data, .data], laidTests := true, laidLooks := .later }
def StatsPartsUptoCardSaid : Prop := Claim7.holds Tryd.pinned (.plain (OpenSpec.upto statsPartsSpec)) statsPartsUptoCard
end Rows
end Go.Proofs.YtjeofhjlmhljhaaDoor
