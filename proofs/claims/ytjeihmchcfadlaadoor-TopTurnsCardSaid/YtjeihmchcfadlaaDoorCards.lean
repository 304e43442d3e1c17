/-
  DERIVED. GIVEN WITH THE SEED: THE CARDS: each row of YtjeihmchcfadlaaDoorRows.lean that lists a variable, with what it lists TIED to the program's text (the seventh form; the later family's looks); each row that meets fmt, with fmt's text TOLD by the authors' own Lean function (tested against real Go, not proved from fmt's source: count such statements apart). THE CARD IS WHAT COUNTS. Prove the row's statement (the work); the ties are given (YtjeihmchcfadlaaDoorTie.lean); close each card by the builder's one call (the guide's Derived/Test/ToyasCard.lean, 'card_holds'). Laid BY PROGRAM, IN A SANDBOX (cutbox-door.mjs). By AI agents, Wed Nov 11 2026. No macro, syntax, notation, axiom, sorry.
-/
import Derived.Test.YtjeihmchcfadlaaDoorRows
import GoSem.ClaimSeven
namespace Go.Proofs.YtjeihmchcfadlaaDoor
namespace Rows

/-- THE TIED CARD OF 'hardtacklaw42.HostsTells'. -/
def hostsTellsCard : Claim7 := { stood := { row := hostsTellsRow, standIns := [], harness := (true, "d513b840ec91f2345823f5f8dd3534c259aa7cc5da73d820b30d898315585fed"), looks := true }, kinds := [], alts := [], laidByText := true, laidKinds := [.data, .data, .data, .data, .sentinel, .sentinel, .pinned], laidTests := true, laidLooks := .later }
def HostsTellsCardSaid : Prop := Claim7.holds Tryd.pinned (.plain (OpenSpec.ofChange hostsTellsSpec)) hostsTellsCard

/-- THE TIED CARD OF 'hardtacklaw42.HostsBack'. -/
def hostsBackCard : Claim7 := { stood := { row := hostsBackRow, standIns := [], harness := (true, "d513b840ec91f2345823f5f8dd3534c259aa7cc5da73d820b30d898315585fed"), looks := true }, kinds := [], alts := [], laidByText := true, laidKinds := [.data, .data, .data, .data, .sentinel, .sentinel, .pinned], laidTests := true, laidLooks := .later }
def HostsBackCardSaid : Prop := Claim7.holds Tryd.pinned (.plain (OpenSpec.ofChange hostsBackSpec)) hostsBackCard

/-- THE TIED CARD OF 'hardtacklaw36.PrefixLean'. -/
def prefixLeanCard : Claim7 := { stood := { row := prefixLeanRow, standIns := [], harness := (true, "d513b840ec91f2345823f5f8dd3534c259aa7cc5da73d820b30d898315585fed"), looks := true }, kinds := [], alts := [], laidByText := true, laidKinds := [.data, .data, .data, .data, .sentinel, .sentinel, .pinned], laidTests := true, laidLooks := .later }
def PrefixLeanCardSaid : Prop := Claim7.holds Tryd.pinned (.plain (OpenSpec.ofChange prefixLeanSpec)) prefixLeanCard

/-- THE TIED CARD OF 'hardtacklaw36.PrefixBack'. -/
def prefixBackCard : Claim7 := { stood := { row := prefixBackRow, standIns := [], harness := (true, "d513b840ec91f2345823f5f8dd3534c259aa7cc5da73d820b30d898315585fed"), looks := true }, kinds := [], alts := [], laidByText := true, laidKinds := [.data, .data, .data, .data, .sentinel, .sentinel, .pinned], laidTests := true, laidLooks := .later }
def PrefixBackCardSaid : Prop := Claim7.holds Tryd.pinned (.plain (OpenSpec.ofChange prefixBackSpec)) prefixBackCard

/-- THE TIED CARD OF 'hardtacktop.TopTurns'. -/
def topTurnsCard : Claim7 := { stood := { row := topTurnsRow, standIns := [], harness := (true, "d513b840ec91f2345823f5f8dd3534c259aa7cc5da73d820b30d898315585fed"), looks := true }, kinds := [], alts := [], laidByText := true, laidKinds := [.data, .data, .data, .data, .sentinel, .sentinel, .pinned], laidTests := true, laidLooks := .later }
def TopTurnsCardSaid : Prop := Claim7.holds Tryd.pinned (.plain (OpenSpec.ofChange topTurnsSpec)) topTurnsCard

/-- THE SECOND FORM's CARD OF 'hardtacklaw42.HostsTells'. -/
def hostsTellsUptoCard : Claim7 := { stood := { row := hostsTellsUptoRow, standIns := [], harness := (true, "d513b840ec91f2345823f5f8dd3534c259aa7cc5da73d820b30d898315585fed"), looks := true }, kinds := [], alts := [], laidByText := true, laidKinds := [.data, .data, .data, .data, .sentinel, .sentinel, .pinned], laidTests := true, laidLooks := .later }
def HostsTellsUptoCardSaid : Prop := Claim7.holds Tryd.pinned (.plain (OpenSpec.upto hostsTellsSpec)) hostsTellsUptoCard

/-- THE SECOND FORM's CARD OF 'hardtacklaw42.HostsBack'. -/
def hostsBackUptoCard : Claim7 := { stood := { row := hostsBackUptoRow, standIns := [], harness := (true, "d513b840ec91f2345823f5f8dd3534c259aa7cc5da73d820b30d898315585fed"), looks := true }, kinds := [], alts := [], laidByText := true, laidKinds := [.data, .data, .data, .data, .sentinel, .sentinel, .pinned], laidTests := true, laidLooks := .later }
def HostsBackUptoCardSaid : Prop := Claim7.holds Tryd.pinned (.plain (OpenSpec.upto hostsBackSpec)) hostsBackUptoCard

/-- THE SECOND FORM's CARD OF 'hardtacklaw36.PrefixLean'. -/
def prefixLeanUptoCard : Claim7 := { stood := { row := prefixLeanUptoRow, standIns := [], harness := (true, "d513b840ec91f2345823f5f8dd3534c259aa7cc5da73d820b30d898315585fed"), looks := true }, kinds := [], alts := [], laidByText := true, laidKinds := [.data, .data, .data, .data, .sentinel, .sentinel, .pinned], laidTests := true, laidLooks := .later }
def PrefixLeanUptoCardSaid : Prop := Claim7.holds Tryd.pinned (.plain (OpenSpec.upto prefixLeanSpec)) prefixLeanUptoCard

/-- THE SECOND FORM's CARD OF 'hardtacklaw36.PrefixBack'. -/
def prefixBackUptoCard : Claim7 := { stood := { row := prefixBackUptoRow, standIns := [], harness := (true, "d513b840ec91f2345823f5f8dd3534c259aa7cc5da73d820b30d898315585fed"), looks := true }, kinds := [], alts := [], laidByText := true, laidKinds := [.data, .data, .data, .data, .sentinel, .sentinel, .pinned], laidTests := true, laidLooks := .later }
def PrefixBackUptoCardSaid : Prop := Claim7.holds Tryd.pinned (.plain (OpenSpec.upto prefixBackSpec)) prefixBackUptoCard

/-- THE SECOND FORM's CARD OF 'hardtacktop.TopTurns'. -/
def topTurnsUptoCard : Claim7 := { stood := { row := topTurnsUptoRow, standIns := [], harness := (true, "d513b840ec91f2345823f5f8dd3534c259aa7cc5da73d820b30d898315585fed"), looks := true }, kinds := [], alts := [], laidByText := true, laidKinds := [.data, .data, .data, .data, .sentinel, .sentinel, .pinned], laidTests := true, laidLooks := .later }
def TopTurnsUptoCardSaid : Prop := Claim7.holds Tryd.pinned (.plain (OpenSpec.upto topTurnsSpec)) topTurnsUptoCard
end Rows
end Go.Proofs.YtjeihmchcfadlaaDoor
