/-
  DERIVED. GIVEN WITH THE SEED: THE CARDS: each row of YtoapibbbooongaaDoorRows.lean that lists a variable, with what it lists TIED to the program's text (the seventh form; the later family's looks); each row that meets fmt, with fmt's text TOLD by the authors' own Lean function (tested against real Go, not proved from fmt's source: count such statements apart). THE CARD IS WHAT COUNTS. Prove the row's statement (the work); the ties are given (YtoapibbbooongaaDoorTie.lean); close each card by the builder's one call (the guide's Derived/Test/ToyasCard.lean, 'card_holds'). Laid BY PROGRAM, IN A SANDBOX (cutbox-door.mjs). By AI agents, Wed Nov 11 2026. No macro, syntax, notation, axiom, sorry.
-/
import Derived.Test.YtoapibbbooongaaDoorRows
import GoSem.ClaimSeven
namespace Go.Proofs.YtoapibbbooongaaDoor
namespace Rows

/-- THE TIED CARD OF 'quadrillelaw08.ImageNewest'. -/
def imageNewestCard : Claim7 := { stood := { row := imageNewestRow, standIns := [], harness := (true, "406b05b2628030173fd9f824beb39d297fcc70919d692b6721a7ee1f849e19de"), looks := false }, kinds := [], alts := [], laidByText := true, laidKinds := [.data, .data, .pinned], laidTests := true, laidLooks := .later }
def ImageNewestCardSaid : Prop := Claim7.holds Tryd.pinned (.plain (OpenSpec.ofChange imageNewestSpec)) imageNewestCard

/-- THE TIED CARD OF 'quadrillelaw08.ImageOpens'. -/
def imageOpensCard : Claim7 := { stood := { row := imageOpensRow, standIns := [], harness := (true, "406b05b2628030173fd9f824beb39d297fcc70919d692b6721a7ee1f849e19de"), looks := false }, kinds := [], alts := [], laidByText := true, laidKinds := [.data, .data, .pinned], laidTests := true, laidLooks := .later }
def ImageOpensCardSaid : Prop := Claim7.holds Tryd.pinned (.plain (OpenSpec.ofChange imageOpensSpec)) imageOpensCard

/-- THE TIED CARD OF 'quadrillelaw08.ImageApart'. -/
def imageApartCard : Claim7 := { stood := { row := imageApartRow, standIns := [], harness := (true, "406b05b2628030173fd9f824beb39d297fcc70919d692b6721a7ee1f849e19de"), looks := false }, kinds := [], alts := [], laidByText := true, laidKinds := [.data, .data, .pinned], laidTests := true, laidLooks := .later }
def ImageApartCardSaid : Prop := Claim7.holds Tryd.pinned (.plain (OpenSpec.ofChange imageApartSpec)) imageApartCard

/-- THE TIED CARD OF 'quadrillelaw08.ImageRoom'. -/
def imageRoomCard : Claim7 := { stood := { row := imageRoomRow, standIns := [], harness := (true, "406b05b2628030173fd9f824beb39d297fcc70919d692b6721a7ee1f849e19de"), looks := false }, kinds := [], alts := [], laidByText := true, laidKinds := [.data, .data, .pinned], laidTests := true, laidLooks := .later }
def ImageRoomCardSaid : Prop := Claim7.holds Tryd.pinned (.plain (OpenSpec.ofChange imageRoomSpec)) imageRoomCard

/-- THE TIED CARD OF 'quadrillelaw07.ScrollOpens'. -/
def scrollOpensCard : Claim7 := { stood := { row := scrollOpensRow, standIns := [], harness := (true, "406b05b2628030173fd9f824beb39d297fcc70919d692b6721a7ee1f849e19de"), looks := false }, kinds := [], alts := [], laidByText := true, laidKinds := [.data, .data, .pinned], laidTests := true, laidLooks := .later }
def ScrollOpensCardSaid : Prop := Claim7.holds Tryd.pinned (.plain (OpenSpec.ofChange scrollOpensSpec)) scrollOpensCard

/-- THE TIED CARD OF 'quadrillelaw07.ScrollEpochs'. -/
def scrollEpochsCard : Claim7 := { stood := { row := scrollEpochsRow, standIns := [], harness := (true, "406b05b2628030173fd9f824beb39d297fcc70919d692b6721a7ee1f849e19de"), looks := false }, kinds := [], alts := [], laidByText := true, laidKinds := [.data, .data, .pinned], laidTests := true, laidLooks := .later }
def ScrollEpochsCardSaid : Prop := Claim7.holds Tryd.pinned (.plain (OpenSpec.ofChange scrollEpochsSpec)) scrollEpochsCard

/-- THE TIED CARD OF 'quadrillelaw07.ScrollRoom'. -/
def scrollRoomCard : Claim7 := { stood := { row := scrollRoomRow, standIns := [], harness := (true, "406b05b2628030173fd9f824beb39d297fcc70919d692b6721a7ee1f849e19de"), looks := false }, kinds := [], alts := [], laidByText := true, laidKinds := [.data, .data, .pinned], laidTests := true, laidLooks := .later }
def ScrollRoomCardSaid : Prop := Claim7.holds Tryd.pinned (.plain (OpenSpec.ofChange scrollRoomSpec)) scrollRoomCard

/-- THE TIED CARD OF 'quadrillelaw07.ScrollSnaps'. -/
def scrollSnapsCard : Claim7 := { stood := { row := scrollSnapsRow, standIns := [], harness := (true, "406b05b2628030173fd9f824beb39d297fcc70919d692b6721a7ee1f849e19de"), looks := false }, kinds := [], alts := [], laidByText := true, laidKinds := [.data, .data, .pinned], laidTests := true, laidLooks := .later }
def ScrollSnapsCardSaid : Prop := Claim7.holds Tryd.pinned (.plain (OpenSpec.ofChange scrollSnapsSpec)) scrollSnapsCard

/-- THE SECOND FORM's CARD OF 'quadrillelaw08.ImageNewest'. -/
def imageNewestUptoCard : Claim7 := { stood := { row := imageNewestUptoRow, standIns := [], harness := (true, "406b05b2628030173fd9f824beb39d297fcc70919d692b6721a7ee1f849e19de"), looks := false }, kinds := [], alts := [], laidByText := true, laidKinds := [.data, .data, .pinned], laidTests := true, laidLooks := .later }
def ImageNewestUptoCardSaid : Prop := Claim7.holds Tryd.pinned (.plain (OpenSpec.upto imageNewestSpec)) imageNewestUptoCard

/-- THE SECOND FORM's CARD OF 'quadrillelaw08.ImageOpens'. -/
def imageOpensUptoCard : Claim7 := { stood := { row := imageOpensUptoRow, standIns := [], harness := (true, "406b05b2628030173fd9f824beb39d297fcc70919d692b6721a7ee1f849e19de"), looks := false }, kinds := [], alts := [], laidByText := true, laidKinds := [.data, .data, .pinned], laidTests := true, laidLooks := .later }
def ImageOpensUptoCardSaid : Prop := Claim7.holds Tryd.pinned (.plain (OpenSpec.upto imageOpensSpec)) imageOpensUptoCard

/-- THE SECOND FORM's CARD OF 'quadrillelaw08.ImageApart'. -/
def imageApartUptoCard : Claim7 := { stood := { row := imageApartUptoRow, standIns := [], harness := (true, "406b05b2628030173fd9f824beb39d297fcc70919d692b6721a7ee1f849e19de"), looks := false }, kinds := [], alts := [], laidByText := true, laidKinds := [.data, .data, .pinned], laidTests := true, laidLooks := .later }
def ImageApartUptoCardSaid : Prop := Claim7.holds Tryd.pinned (.plain (OpenSpec.upto imageApartSpec)) imageApartUptoCard

/-- THE SECOND FORM's CARD OF 'quadrillelaw08.ImageRoom'. -/
def imageRoomUptoCard : Claim7 := { stood := { row := imageRoomUptoRow, standIns := [], harness := (true, "406b05b2628030173fd9f824beb39d297fcc70919d692b6721a7ee1f849e19de"), looks := false }, kinds := [], alts := [], laidByText := true, laidKinds := [.data, .data, .pinned], laidTests := true, laidLooks := .later }
def ImageRoomUptoCardSaid : Prop := Claim7.holds Tryd.pinned (.plain (OpenSpec.upto imageRoomSpec)) imageRoomUptoCard

/-- THE SECOND FORM's CARD OF 'quadrillelaw07.ScrollOpens'. -/
def scrollOpensUptoCard : Claim7 := { stood := { row := scrollOpensUptoRow, standIns := [], harness := (true, "406b05b2628030173fd9f824beb39d297fcc70919d692b6721a7ee1f849e19de"), looks := false }, kinds := [], alts := [], laidByText := true, laidKinds := [.data, .data, .pinned], laidTests := true, laidLooks := .later }
def ScrollOpensUptoCardSaid : Prop := Claim7.holds Tryd.pinned (.plain (OpenSpec.upto scrollOpensSpec)) scrollOpensUptoCard

/-- THE SECOND FORM's CARD OF 'quadrillelaw07.ScrollEpochs'. -/
def scrollEpochsUptoCard : Claim7 := { stood := { row := scrollEpochsUptoRow, standIns := [], harness := (true, "406b05b2628030173fd9f824beb39d297fcc70919d692b6721a7ee1f849e19de"), looks := false }, kinds := [], alts := [], laidByText := true, laidKinds := [.data, .data, .pinned], laidTests := true, laidLooks := .later }
def ScrollEpochsUptoCardSaid : Prop := Claim7.holds Tryd.pinned (.plain (OpenSpec.upto scrollEpochsSpec)) scrollEpochsUptoCard

/-- THE SECOND FORM's CARD OF 'quadrillelaw07.ScrollRoom'. -/
def scrollRoomUptoCard : Claim7 := { stood := { row := scrollRoomUptoRow, standIns := [], harness := (true, "406b05b2628030173fd9f824beb39d297fcc70919d692b6721a7ee1f849e19de"), looks := false }, kinds := [], alts := [], laidByText := true, laidKinds := [.data, .data, .pinned], laidTests := true, laidLooks := .later }
def ScrollRoomUptoCardSaid : Prop := Claim7.holds Tryd.pinned (.plain (OpenSpec.upto scrollRoomSpec)) scrollRoomUptoCard

/-- THE SECOND FORM's CARD OF 'quadrillelaw07.ScrollSnaps'. -/
def scrollSnapsUptoCard : Claim7 := { stood := { row := scrollSnapsUptoRow, standIns := [], harness := (true, "406b05b2628030173fd9f824beb39d297fcc70919d692b6721a7ee1f849e19de"), looks := false }, kinds := [], alts := [], laidByText := true, laidKinds := [.data, .data, .pinned], laidTests := true, laidLooks := .later }
def ScrollSnapsUptoCardSaid : Prop := Claim7.holds Tryd.pinned (.plain (OpenSpec.upto scrollSnapsSpec)) scrollSnapsUptoCard
end Rows
end Go.Proofs.YtoapibbbooongaaDoor
