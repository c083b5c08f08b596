/-
  DERIVED. GIVEN WITH THE SEED: THE CARDS: each row of YtkaidbfpgdfpfaaDoorRows.lean that lists a variable, with what it lists TIED to the program's text (the seventh form; the later family's looks); each row that meets fmt, with fmt's text TOLD by the authors' own Lean function (tested against real Go, not proved from fmt's source: count such statements apart). THE CARD IS WHAT COUNTS. Prove the row's statement (the work); the ties are given (YtkaidbfpgdfpfaaDoorTie.lean); close each card by the builder's one call (the guide's Derived/Test/ToyasCard.lean, 'card_holds'). Laid BY PROGRAM, IN A SANDBOX (cutbox-door.mjs). By AI agents, Wed Nov 11 2026. No macro, syntax, notation, axiom, sorry.
-/
import Derived.Test.YtkaidbfpgdfpfaaDoorRows
import GoSem.ClaimSeven
namespace Go.Proofs.YtkaidbfpgdfpfaaDoor
namespace Rows

/-- THE TIED CARD OF 'quadrillelaw06.BlockReads'. -/
def blockReadsCard : Claim7 := { stood := { row := blockReadsRow, standIns := [], harness := (true, "e608f3bacd6ecdb54bfa0e0429322f2f274e5e49cfe2dcfbe6deae2a4cd5bc86"), looks := false }, kinds := [], alts := [], laidByText := true, laidKinds := [.data, .data, .pinned], laidTests := true, laidLooks := .later }
def BlockReadsCardSaid : Prop := Claim7.holds Tryd.pinned (.plain (OpenSpec.ofChange blockReadsSpec)) blockReadsCard

/-- THE TIED CARD OF 'quadrillelaw06.BlockMaps'. -/
def blockMapsCard : Claim7 := { stood := { row := blockMapsRow, standIns := [], harness := (true, "e608f3bacd6ecdb54bfa0e0429322f2f274e5e49cfe2dcfbe6deae2a4cd5bc86"), looks := false }, kinds := [], alts := [], laidByText := true, laidKinds := [.data, .data, .pinned], laidTests := true, laidLooks := .later }
def BlockMapsCardSaid : Prop := Claim7.holds Tryd.pinned (.plain (OpenSpec.ofChange blockMapsSpec)) blockMapsCard

/-- THE TIED CARD OF 'quadrillelaw06.BlockApart'. -/
def blockApartCard : Claim7 := { stood := { row := blockApartRow, standIns := [], harness := (true, "e608f3bacd6ecdb54bfa0e0429322f2f274e5e49cfe2dcfbe6deae2a4cd5bc86"), looks := false }, kinds := [], alts := [], laidByText := true, laidKinds := [.data, .data, .pinned], laidTests := true, laidLooks := .later }
def BlockApartCardSaid : Prop := Claim7.holds Tryd.pinned (.plain (OpenSpec.ofChange blockApartSpec)) blockApartCard

/-- THE TIED CARD OF 'quadrillelaw06.BlockTurned'. -/
def blockTurnedCard : Claim7 := { stood := { row := blockTurnedRow, standIns := [], harness := (true, "e608f3bacd6ecdb54bfa0e0429322f2f274e5e49cfe2dcfbe6deae2a4cd5bc86"), looks := false }, kinds := [], alts := [], laidByText := true, laidKinds := [.data, .data, .pinned], laidTests := true, laidLooks := .later }
def BlockTurnedCardSaid : Prop := Claim7.holds Tryd.pinned (.plain (OpenSpec.ofChange blockTurnedSpec)) blockTurnedCard

/-- THE TIED CARD OF 'quadrillelaw06.BlockPlays'. -/
def blockPlaysCard : Claim7 := { stood := { row := blockPlaysRow, standIns := [], harness := (true, "e608f3bacd6ecdb54bfa0e0429322f2f274e5e49cfe2dcfbe6deae2a4cd5bc86"), looks := false }, kinds := [], alts := [], laidByText := true, laidKinds := [.data, .data, .pinned], laidTests := true, laidLooks := .later }
def BlockPlaysCardSaid : Prop := Claim7.holds Tryd.pinned (.plain (OpenSpec.ofChange blockPlaysSpec)) blockPlaysCard

/-- THE TIED CARD OF 'quadrillelaw06.BlockRoots'. -/
def blockRootsCard : Claim7 := { stood := { row := blockRootsRow, standIns := [], harness := (true, "e608f3bacd6ecdb54bfa0e0429322f2f274e5e49cfe2dcfbe6deae2a4cd5bc86"), looks := false }, kinds := [], alts := [], laidByText := true, laidKinds := [.data, .data, .pinned], laidTests := true, laidLooks := .later }
def BlockRootsCardSaid : Prop := Claim7.holds Tryd.pinned (.plain (OpenSpec.ofChange blockRootsSpec)) blockRootsCard

/-- THE SECOND FORM's CARD OF 'quadrillelaw06.BlockReads'. -/
def blockReadsUptoCard : Claim7 := { stood := { row := blockReadsUptoRow, standIns := [], harness := (true, "e608f3bacd6ecdb54bfa0e0429322f2f274e5e49cfe2dcfbe6deae2a4cd5bc86"), looks := false }, kinds := [], alts := [], laidByText := true, laidKinds := [.data, .data, .pinned], laidTests := true, laidLooks := .later }
def BlockReadsUptoCardSaid : Prop := Claim7.holds Tryd.pinned (.plain (OpenSpec.upto blockReadsSpec)) blockReadsUptoCard

/-- THE SECOND FORM's CARD OF 'quadrillelaw06.BlockMaps'. -/
def blockMapsUptoCard : Claim7 := { stood := { row := blockMapsUptoRow, standIns := [], harness := (true, "e608f3bacd6ecdb54bfa0e0429322f2f274e5e49cfe2dcfbe6deae2a4cd5bc86"), looks := false }, kinds := [], alts := [], laidByText := true, laidKinds := [.data, .data, .pinned], laidTests := true, laidLooks := .later }
def BlockMapsUptoCardSaid : Prop := Claim7.holds Tryd.pinned (.plain (OpenSpec.upto blockMapsSpec)) blockMapsUptoCard

/-- THE SECOND FORM's CARD OF 'quadrillelaw06.BlockApart'. -/
def blockApartUptoCard : Claim7 := { stood := { row := blockApartUptoRow, standIns := [], harness := (true, "e608f3bacd6ecdb54bfa0e0429322f2f274e5e49cfe2dcfbe6deae2a4cd5bc86"), looks := false }, kinds := [], alts := [], laidByText := true, laidKinds := [.data, .data, .pinned], laidTests := true, laidLooks := .later }
def BlockApartUptoCardSaid : Prop := Claim7.holds Tryd.pinned (.plain (OpenSpec.upto blockApartSpec)) blockApartUptoCard

/-- THE SECOND FORM's CARD OF 'quadrillelaw06.BlockTurned'. -/
def blockTurnedUptoCard : Claim7 := { stood := { row := blockTurnedUptoRow, standIns := [], harness := (true, "e608f3bacd6ecdb54bfa0e0429322f2f274e5e49cfe2dcfbe6deae2a4cd5bc86"), looks := false }, kinds := [], alts := [], laidByText := true, laidKinds := [.data, .data, .pinned], laidTests := true, laidLooks := .later }
def BlockTurnedUptoCardSaid : Prop := Claim7.holds Tryd.pinned (.plain (OpenSpec.upto blockTurnedSpec)) blockTurnedUptoCard

/-- THE SECOND FORM's CARD OF 'quadrillelaw06.BlockPlays'. -/
def blockPlaysUptoCard : Claim7 := { stood := { row := blockPlaysUptoRow, standIns := [], harness := (true, "e608f3bacd6ecdb54bfa0e0429322f2f274e5e49cfe2dcfbe6deae2a4cd5bc86"), looks := false }, kinds := [], alts := [], laidByText := true, laidKinds := [.data, .data, .pinned], laidTests := true, laidLooks := .later }
def BlockPlaysUptoCardSaid : Prop := Claim7.holds Tryd.pinned (.plain (OpenSpec.upto blockPlaysSpec)) blockPlaysUptoCard

/-- THE SECOND FORM's CARD OF 'quadrillelaw06.BlockRoots'. -/
def blockRootsUptoCard : Claim7 := { stood := { row := blockRootsUptoRow, standIns := [], harness := (true, "e608f3bacd6ecdb54bfa0e0429322f2f274e5e49cfe2dcfbe6deae2a4cd5bc86"), looks := false }, kinds := [], alts := [], laidByText := true, laidKinds := [.data, .data, .pinned], laidTests := true, laidLooks := .later }
def BlockRootsUptoCardSaid : Prop := Claim7.holds Tryd.pinned (.plain (OpenSpec.upto blockRootsSpec)) blockRootsUptoCard
end Rows
end Go.Proofs.YtkaidbfpgdfpfaaDoor
