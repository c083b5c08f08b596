/-
  DERIVED. GIVEN WITH THE SEED: THE CARDS: each row of YtinmhdikldmcgaaDoorRows.lean that lists a variable, with what it lists TIED to the program's text (the seventh form; the later family's looks); each row that meets fmt, with fmt's text TOLD by the authors' own Lean function (tested against real Go, not proved from fmt's source: count such statements apart). THE CARD IS WHAT COUNTS. Prove the row's statement (the work); the ties are given (YtinmhdikldmcgaaDoorTie.lean); close each card by the builder's one call (the guide's Derived/Test/ToyasCard.lean, 'card_holds'). Laid BY PROGRAM, IN A SANDBOX (cutbox-door.mjs). By AI agents, Wed Nov 11 2026. No macro, syntax, notation, axiom, sorry.
-/
import Derived.Test.YtinmhdikldmcgaaDoorRows
import GoSem.ClaimSeven
namespace Go.Proofs.YtinmhdikldmcgaaDoor
namespace Rows

/-- THE TIED CARD OF 'quadrillelaw02.KnotSums'. -/
def knotSumsCard : Claim7 := { stood := { row := knotSumsRow, standIns := [], harness := (true, "fc56c2ac711c0cec8e8b75019cf04baf593961f8e54ef5021ee72e32cc5f67ba"), looks := false }, kinds := [], alts := [], laidByText := true, laidKinds := [.data], laidTests := true, laidLooks := .later }
def KnotSumsCardSaid : Prop := Claim7.holds Tryd.pinned (.plain (OpenSpec.ofChange knotSumsSpec)) knotSumsCard

/-- THE TIED CARD OF 'quadrillelaw02.KnotApart'. -/
def knotApartCard : Claim7 := { stood := { row := knotApartRow, standIns := [], harness := (true, "fc56c2ac711c0cec8e8b75019cf04baf593961f8e54ef5021ee72e32cc5f67ba"), looks := false }, kinds := [], alts := [], laidByText := true, laidKinds := [.data], laidTests := true, laidLooks := .later }
def KnotApartCardSaid : Prop := Claim7.holds Tryd.pinned (.plain (OpenSpec.ofChange knotApartSpec)) knotApartCard

/-- THE TIED CARD OF 'quadrillelaw02.KnotRows'. -/
def knotRowsCard : Claim7 := { stood := { row := knotRowsRow, standIns := [], harness := (true, "fc56c2ac711c0cec8e8b75019cf04baf593961f8e54ef5021ee72e32cc5f67ba"), looks := false }, kinds := [], alts := [], laidByText := true, laidKinds := [.data], laidTests := true, laidLooks := .later }
def KnotRowsCardSaid : Prop := Claim7.holds Tryd.pinned (.plain (OpenSpec.ofChange knotRowsSpec)) knotRowsCard

/-- THE TIED CARD OF 'quadrillelaw02.KnotReads'. -/
def knotReadsCard : Claim7 := { stood := { row := knotReadsRow, standIns := [], harness := (true, "fc56c2ac711c0cec8e8b75019cf04baf593961f8e54ef5021ee72e32cc5f67ba"), looks := false }, kinds := [], alts := [], laidByText := true, laidKinds := [.data], laidTests := true, laidLooks := .later }
def KnotReadsCardSaid : Prop := Claim7.holds Tryd.pinned (.plain (OpenSpec.ofChange knotReadsSpec)) knotReadsCard

/-- THE TIED CARD OF 'quadrillelaw02.KnotTies'. -/
def knotTiesCard : Claim7 := { stood := { row := knotTiesRow, standIns := [], harness := (true, "fc56c2ac711c0cec8e8b75019cf04baf593961f8e54ef5021ee72e32cc5f67ba"), looks := false }, kinds := [], alts := [], laidByText := true, laidKinds := [.data], laidTests := true, laidLooks := .later }
def KnotTiesCardSaid : Prop := Claim7.holds Tryd.pinned (.plain (OpenSpec.ofChange knotTiesSpec)) knotTiesCard

/-- THE TIED CARD OF 'quadrillelaw02.KnotBursts'. -/
def knotBurstsCard : Claim7 := { stood := { row := knotBurstsRow, standIns := [], harness := (true, "fc56c2ac711c0cec8e8b75019cf04baf593961f8e54ef5021ee72e32cc5f67ba"), looks := false }, kinds := [], alts := [], laidByText := true, laidKinds := [.data], laidTests := true, laidLooks := .later }
def KnotBurstsCardSaid : Prop := Claim7.holds Tryd.pinned (.plain (OpenSpec.ofChange knotBurstsSpec)) knotBurstsCard

/-- THE TIED CARD OF 'quadrillelaw02.KnotLimits'. -/
def knotLimitsCard : Claim7 := { stood := { row := knotLimitsRow, standIns := [], harness := (true, "fc56c2ac711c0cec8e8b75019cf04baf593961f8e54ef5021ee72e32cc5f67ba"), looks := false }, kinds := [], alts := [], laidByText := true, laidKinds := [.data], laidTests := true, laidLooks := .later }
def KnotLimitsCardSaid : Prop := Claim7.holds Tryd.pinned (.plain (OpenSpec.ofChange knotLimitsSpec)) knotLimitsCard

/-- THE TIED CARD OF 'quadrillelaw02.KnotCuts'. -/
def knotCutsCard : Claim7 := { stood := { row := knotCutsRow, standIns := [], harness := (true, "fc56c2ac711c0cec8e8b75019cf04baf593961f8e54ef5021ee72e32cc5f67ba"), looks := false }, kinds := [], alts := [], laidByText := true, laidKinds := [.data], laidTests := true, laidLooks := .later }
def KnotCutsCardSaid : Prop := Claim7.holds Tryd.pinned (.plain (OpenSpec.ofChange knotCutsSpec)) knotCutsCard

/-- THE SECOND FORM's CARD OF 'quadrillelaw02.KnotSums'. -/
def knotSumsUptoCard : Claim7 := { stood := { row := knotSumsUptoRow, standIns := [], harness := (true, "fc56c2ac711c0cec8e8b75019cf04baf593961f8e54ef5021ee72e32cc5f67ba"), looks := false }, kinds := [], alts := [], laidByText := true, laidKinds := [.data], laidTests := true, laidLooks := .later }
def KnotSumsUptoCardSaid : Prop := Claim7.holds Tryd.pinned (.plain (OpenSpec.upto knotSumsSpec)) knotSumsUptoCard

/-- THE SECOND FORM's CARD OF 'quadrillelaw02.KnotApart'. -/
def knotApartUptoCard : Claim7 := { stood := { row := knotApartUptoRow, standIns := [], harness := (true, "fc56c2ac711c0cec8e8b75019cf04baf593961f8e54ef5021ee72e32cc5f67ba"), looks := false }, kinds := [], alts := [], laidByText := true, laidKinds := [.data], laidTests := true, laidLooks := .later }
def KnotApartUptoCardSaid : Prop := Claim7.holds Tryd.pinned (.plain (OpenSpec.upto knotApartSpec)) knotApartUptoCard

/-- THE SECOND FORM's CARD OF 'quadrillelaw02.KnotRows'. -/
def knotRowsUptoCard : Claim7 := { stood := { row := knotRowsUptoRow, standIns := [], harness := (true, "fc56c2ac711c0cec8e8b75019cf04baf593961f8e54ef5021ee72e32cc5f67ba"), looks := false }, kinds := [], alts := [], laidByText := true, laidKinds := [.data], laidTests := true, laidLooks := .later }
def KnotRowsUptoCardSaid : Prop := Claim7.holds Tryd.pinned (.plain (OpenSpec.upto knotRowsSpec)) knotRowsUptoCard

/-- THE SECOND FORM's CARD OF 'quadrillelaw02.KnotReads'. -/
def knotReadsUptoCard : Claim7 := { stood := { row := knotReadsUptoRow, standIns := [], harness := (true, "fc56c2ac711c0cec8e8b75019cf04baf593961f8e54ef5021ee72e32cc5f67ba"), looks := false }, kinds := [], alts := [], laidByText := true, laidKinds := [.data], laidTests := true, laidLooks := .later }
def KnotReadsUptoCardSaid : Prop := Claim7.holds Tryd.pinned (.plain (OpenSpec.upto knotReadsSpec)) knotReadsUptoCard

/-- THE SECOND FORM's CARD OF 'quadrillelaw02.KnotTies'. -/
def knotTiesUptoCard : Claim7 := { stood := { row := knotTiesUptoRow, standIns := [], harness := (true, "fc56c2ac711c0cec8e8b75019cf04baf593961f8e54ef5021ee72e32cc5f67ba"), looks := false }, kinds := [], alts := [], laidByText := true, laidKinds := [.data], laidTests := true, laidLooks := .later }
def KnotTiesUptoCardSaid : Prop := Claim7.holds Tryd.pinned (.plain (OpenSpec.upto knotTiesSpec)) knotTiesUptoCard

/-- THE SECOND FORM's CARD OF 'quadrillelaw02.KnotBursts'. -/
def knotBurstsUptoCard : Claim7 := { stood := { row := knotBurstsUptoRow, standIns := [], harness := (true, "fc56c2ac711c0cec8e8b75019cf04baf593961f8e54ef5021ee72e32cc5f67ba"), looks := false }, kinds := [], alts := [], laidByText := true, laidKinds := [.data], laidTests := true, laidLooks := .later }
def KnotBurstsUptoCardSaid : Prop := Claim7.holds Tryd.pinned (.plain (OpenSpec.upto knotBurstsSpec)) knotBurstsUptoCard

/-- THE SECOND FORM's CARD OF 'quadrillelaw02.KnotLimits'. -/
def knotLimitsUptoCard : Claim7 := { stood := { row := knotLimitsUptoRow, standIns := [], harness := (true, "fc56c2ac711c0cec8e8b75019cf04baf593961f8e54ef5021ee72e32cc5f67ba"), looks := false }, kinds := [], alts := [], laidByText := true, laidKinds := [.data], laidTests := true, laidLooks := .later }
def KnotLimitsUptoCardSaid : Prop := Claim7.holds Tryd.pinned (.plain (OpenSpec.upto knotLimitsSpec)) knotLimitsUptoCard

/-- THE SECOND FORM's CARD OF 'quadrillelaw02.KnotCuts'. -/
def knotCutsUptoCard : Claim7 := { stood := { row := knotCutsUptoRow, standIns := [], harness := (true, "fc56c2ac711c0cec8e8b75019cf04baf593961f8e54ef5021ee72e32cc5f67ba"), looks := false }, kinds := [], alts := [], laidByText := true, laidKinds := [.data], laidTests := true, laidLooks := .later }
def KnotCutsUptoCardSaid : Prop := Claim7.holds Tryd.pinned (.plain (OpenSpec.upto knotCutsSpec)) knotCutsUptoCard
end Rows
end Go.Proofs.YtinmhdikldmcgaaDoor
