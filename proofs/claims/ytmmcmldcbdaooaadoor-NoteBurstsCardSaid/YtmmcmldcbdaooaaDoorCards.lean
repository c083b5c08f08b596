/-
  DERIVED. GIVEN WITH THE SEED: THE CARDS: each row of YtmmcmldcbdaooaaDoorRows.lean that lists a variable, with what it lists TIED to the program's text (the seventh form; the later family's looks); each row that meets fmt, with fmt's text TOLD by the authors' own Lean function (tested against real Go, not proved from fmt's source: count such statements apart). THE CARD IS WHAT COUNTS. Prove the row's statement (the work); the ties are given (YtmmcmldcbdaooaaDoorTie.lean); close each card by the builder's one call (the guide's Derived/Test/ToyasCard.lean, 'card_holds'). Laid BY PROGRAM, IN A SANDBOX (cutbox-door.mjs). By AI agents, Wed Nov 11 2026. No macro, syntax, notation, axiom, sorry.
-/
import Derived.Test.YtmmcmldcbdaooaaDoorRows
import GoSem.ClaimSeven
namespace Go.Proofs.YtmmcmldcbdaooaaDoor
namespace Rows

/-- THE TIED CARD OF 'quadrillelaw04.NoteApart'. -/
def noteApartCard : Claim7 := { stood := { row := noteApartRow, standIns := [], harness := (true, "cd61c8c88a88f0d521a310665950f28ab511f71f40fc68bf40c0a6d430da0228"), looks := false }, kinds := [], alts := [], laidByText := true, laidKinds := [.data], laidTests := true, laidLooks := .later }
def NoteApartCardSaid : Prop := Claim7.holds Tryd.pinned (.plain (OpenSpec.ofChange noteApartSpec)) noteApartCard

/-- THE TIED CARD OF 'quadrillelaw04.NoteNotes'. -/
def noteNotesCard : Claim7 := { stood := { row := noteNotesRow, standIns := [], harness := (true, "cd61c8c88a88f0d521a310665950f28ab511f71f40fc68bf40c0a6d430da0228"), looks := false }, kinds := [], alts := [], laidByText := true, laidKinds := [.data], laidTests := true, laidLooks := .later }
def NoteNotesCardSaid : Prop := Claim7.holds Tryd.pinned (.plain (OpenSpec.ofChange noteNotesSpec)) noteNotesCard

/-- THE TIED CARD OF 'quadrillelaw04.NoteAsks'. -/
def noteAsksCard : Claim7 := { stood := { row := noteAsksRow, standIns := [], harness := (true, "cd61c8c88a88f0d521a310665950f28ab511f71f40fc68bf40c0a6d430da0228"), looks := false }, kinds := [], alts := [], laidByText := true, laidKinds := [.data], laidTests := true, laidLooks := .later }
def NoteAsksCardSaid : Prop := Claim7.holds Tryd.pinned (.plain (OpenSpec.ofChange noteAsksSpec)) noteAsksCard

/-- THE TIED CARD OF 'quadrillelaw04.NoteBursts'. -/
def noteBurstsCard : Claim7 := { stood := { row := noteBurstsRow, standIns := [], harness := (true, "cd61c8c88a88f0d521a310665950f28ab511f71f40fc68bf40c0a6d430da0228"), looks := false }, kinds := [], alts := [], laidByText := true, laidKinds := [.data], laidTests := true, laidLooks := .later }
def NoteBurstsCardSaid : Prop := Claim7.holds Tryd.pinned (.plain (OpenSpec.ofChange noteBurstsSpec)) noteBurstsCard

/-- THE TIED CARD OF 'quadrillelaw04.NotePackets'. -/
def notePacketsCard : Claim7 := { stood := { row := notePacketsRow, standIns := [], harness := (true, "cd61c8c88a88f0d521a310665950f28ab511f71f40fc68bf40c0a6d430da0228"), looks := false }, kinds := [], alts := [], laidByText := true, laidKinds := [.data], laidTests := true, laidLooks := .later }
def NotePacketsCardSaid : Prop := Claim7.holds Tryd.pinned (.plain (OpenSpec.ofChange notePacketsSpec)) notePacketsCard

/-- THE TIED CARD OF 'quadrillelaw04.NoteReads'. -/
def noteReadsCard : Claim7 := { stood := { row := noteReadsRow, standIns := [], harness := (true, "cd61c8c88a88f0d521a310665950f28ab511f71f40fc68bf40c0a6d430da0228"), looks := false }, kinds := [], alts := [], laidByText := true, laidKinds := [.data], laidTests := true, laidLooks := .later }
def NoteReadsCardSaid : Prop := Claim7.holds Tryd.pinned (.plain (OpenSpec.ofChange noteReadsSpec)) noteReadsCard

/-- THE TIED CARD OF 'quadrillelaw04.NoteBodies'. -/
def noteBodiesCard : Claim7 := { stood := { row := noteBodiesRow, standIns := [], harness := (true, "cd61c8c88a88f0d521a310665950f28ab511f71f40fc68bf40c0a6d430da0228"), looks := false }, kinds := [], alts := [], laidByText := true, laidKinds := [.data], laidTests := true, laidLooks := .later }
def NoteBodiesCardSaid : Prop := Claim7.holds Tryd.pinned (.plain (OpenSpec.ofChange noteBodiesSpec)) noteBodiesCard

/-- THE SECOND FORM's CARD OF 'quadrillelaw04.NoteApart'. -/
def noteApartUptoCard : Claim7 := { stood := { row := noteApartUptoRow, standIns := [], harness := (true, "cd61c8c88a88f0d521a310665950f28ab511f71f40fc68bf40c0a6d430da0228"), looks := false }, kinds := [], alts := [], laidByText := true, laidKinds := [.data], laidTests := true, laidLooks := .later }
def NoteApartUptoCardSaid : Prop := Claim7.holds Tryd.pinned (.plain (OpenSpec.upto noteApartSpec)) noteApartUptoCard

/-- THE SECOND FORM's CARD OF 'quadrillelaw04.NoteNotes'. -/
def noteNotesUptoCard : Claim7 := { stood := { row := noteNotesUptoRow, standIns := [], harness := (true, "cd61c8c88a88f0d521a310665950f28ab511f71f40fc68bf40c0a6d430da0228"), looks := false }, kinds := [], alts := [], laidByText := true, laidKinds := [.data], laidTests := true, laidLooks := .later }
def NoteNotesUptoCardSaid : Prop := Claim7.holds Tryd.pinned (.plain (OpenSpec.upto noteNotesSpec)) noteNotesUptoCard

/-- THE SECOND FORM's CARD OF 'quadrillelaw04.NoteAsks'. -/
def noteAsksUptoCard : Claim7 := { stood := { row := noteAsksUptoRow, standIns := [], harness := (true, "cd61c8c88a88f0d521a310665950f28ab511f71f40fc68bf40c0a6d430da0228"), looks := false }, kinds := [], alts := [], laidByText := true, laidKinds := [.data], laidTests := true, laidLooks := .later }
def NoteAsksUptoCardSaid : Prop := Claim7.holds Tryd.pinned (.plain (OpenSpec.upto noteAsksSpec)) noteAsksUptoCard

/-- THE SECOND FORM's CARD OF 'quadrillelaw04.NoteBursts'. -/
def noteBurstsUptoCard : Claim7 := { stood := { row := noteBurstsUptoRow, standIns := [], harness := (true, "cd61c8c88a88f0d521a310665950f28ab511f71f40fc68bf40c0a6d430da0228"), looks := false }, kinds := [], alts := [], laidByText := true, laidKinds := [.data], laidTests := true, laidLooks := .later }
def NoteBurstsUptoCardSaid : Prop := Claim7.holds Tryd.pinned (.plain (OpenSpec.upto noteBurstsSpec)) noteBurstsUptoCard

/-- THE SECOND FORM's CARD OF 'quadrillelaw04.NotePackets'. -/
def notePacketsUptoCard : Claim7 := { stood := { row := notePacketsUptoRow, standIns := [], harness := (true, "cd61c8c88a88f0d521a310665950f28ab511f71f40fc68bf40c0a6d430da0228"), looks := false }, kinds := [], alts := [], laidByText := true, laidKinds := [.data], laidTests := true, laidLooks := .later }
def NotePacketsUptoCardSaid : Prop := Claim7.holds Tryd.pinned (.plain (OpenSpec.upto notePacketsSpec)) notePacketsUptoCard

/-- THE SECOND FORM's CARD OF 'quadrillelaw04.NoteReads'. -/
def noteReadsUptoCard : Claim7 := { stood := { row := noteReadsUptoRow, standIns := [], harness := (true, "cd61c8c88a88f0d521a310665950f28ab511f71f40fc68bf40c0a6d430da0228"), looks := false }, kinds := [], alts := [], laidByText := true, laidKinds := [.data], laidTests := true, laidLooks := .later }
def NoteReadsUptoCardSaid : Prop := Claim7.holds Tryd.pinned (.plain (OpenSpec.upto noteReadsSpec)) noteReadsUptoCard

/-- THE SECOND FORM's CARD OF 'quadrillelaw04.NoteBodies'. -/
def noteBodiesUptoCard : Claim7 := { stood := { row := noteBodiesUptoRow, standIns := [], harness := (true, "cd61c8c88a88f0d521a310665950f28ab511f71f40fc68bf40c0a6d430da0228"), looks := false }, kinds := [], alts := [], laidByText := true, laidKinds := [.data], laidTests := true, laidLooks := .later }
def NoteBodiesUptoCardSaid : Prop := Claim7.holds Tryd.pinned (.plain (OpenSpec.upto noteBodiesSpec)) noteBodiesUptoCard
end Rows
end Go.Proofs.YtmmcmldcbdaooaaDoor
