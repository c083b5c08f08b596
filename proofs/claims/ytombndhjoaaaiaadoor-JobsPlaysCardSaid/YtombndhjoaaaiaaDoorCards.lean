/-
  DERIVED. GIVEN WITH THE SEED: THE CARDS: each row of YtombndhjoaaaiaaDoorRows.lean that lists a variable, with what it lists TIED to the program's text (the seventh form; the later family's looks); each row that meets fmt, with fmt's text TOLD by the authors' own Lean function (tested against real Go, not proved from fmt's source: count such statements apart). THE CARD IS WHAT COUNTS. Prove the row's statement (the work); the ties are given (YtombndhjoaaaiaaDoorTie.lean); close each card by the builder's one call (the guide's Derived/Test/ToyasCard.lean, 'card_holds'). Laid BY PROGRAM, IN A SANDBOX (cutbox-door.mjs). By AI agents, Wed Nov 11 2026. No macro, syntax, notation, axiom, sorry.
-/
import Derived.Test.YtombndhjoaaaiaaDoorRows
import GoSem.ClaimSeven
namespace Go.Proofs.YtombndhjoaaaiaaDoor
namespace Rows

/-- THE TIED CARD OF 'quadrillelaw16.JobsCredit'. -/
def jobsCreditCard : Claim7 := { stood := { row := jobsCreditRow, standIns := [], harness := (true, "02e771574f02b4683a20261495850a51dcb86f131d45530baf77fcd4b3c5863b"), looks := true }, kinds := [], alts := [], laidByText := true, laidKinds := [.data], laidTests := true, laidLooks := .later }
def JobsCreditCardSaid : Prop := Claim7.holds Tryd.pinned (.plain (OpenSpec.ofChange jobsCreditSpec)) jobsCreditCard

/-- THE TIED CARD OF 'quadrillelaw16.JobsFull'. -/
def jobsFullCard : Claim7 := { stood := { row := jobsFullRow, standIns := [], harness := (true, "02e771574f02b4683a20261495850a51dcb86f131d45530baf77fcd4b3c5863b"), looks := true }, kinds := [], alts := [], laidByText := true, laidKinds := [.data], laidTests := true, laidLooks := .later }
def JobsFullCardSaid : Prop := Claim7.holds Tryd.pinned (.plain (OpenSpec.ofChange jobsFullSpec)) jobsFullCard

/-- THE TIED CARD OF 'quadrillelaw16.JobsApart'. -/
def jobsApartCard : Claim7 := { stood := { row := jobsApartRow, standIns := [], harness := (true, "02e771574f02b4683a20261495850a51dcb86f131d45530baf77fcd4b3c5863b"), looks := true }, kinds := [], alts := [], laidByText := true, laidKinds := [.data], laidTests := true, laidLooks := .later }
def JobsApartCardSaid : Prop := Claim7.holds Tryd.pinned (.plain (OpenSpec.ofChange jobsApartSpec)) jobsApartCard

/-- THE TIED CARD OF 'quadrillelaw16.JobsOnce'. -/
def jobsOnceCard : Claim7 := { stood := { row := jobsOnceRow, standIns := [], harness := (true, "02e771574f02b4683a20261495850a51dcb86f131d45530baf77fcd4b3c5863b"), looks := true }, kinds := [], alts := [], laidByText := true, laidKinds := [.data], laidTests := true, laidLooks := .later }
def JobsOnceCardSaid : Prop := Claim7.holds Tryd.pinned (.plain (OpenSpec.ofChange jobsOnceSpec)) jobsOnceCard

/-- THE TIED CARD OF 'quadrillelaw16.JobsRefused'. -/
def jobsRefusedCard : Claim7 := { stood := { row := jobsRefusedRow, standIns := [], harness := (true, "02e771574f02b4683a20261495850a51dcb86f131d45530baf77fcd4b3c5863b"), looks := true }, kinds := [], alts := [], laidByText := true, laidKinds := [.data], laidTests := true, laidLooks := .later }
def JobsRefusedCardSaid : Prop := Claim7.holds Tryd.pinned (.plain (OpenSpec.ofChange jobsRefusedSpec)) jobsRefusedCard

/-- THE TIED CARD OF 'quadrillelaw16.JobsPlays'. -/
def jobsPlaysCard : Claim7 := { stood := { row := jobsPlaysRow, standIns := [], harness := (true, "02e771574f02b4683a20261495850a51dcb86f131d45530baf77fcd4b3c5863b"), looks := true }, kinds := [], alts := [], laidByText := true, laidKinds := [.data], laidTests := true, laidLooks := .later }
def JobsPlaysCardSaid : Prop := Claim7.holds Tryd.pinned (.plain (OpenSpec.ofChange jobsPlaysSpec)) jobsPlaysCard

/-- THE SECOND FORM's CARD OF 'quadrillelaw16.JobsCredit'. -/
def jobsCreditUptoCard : Claim7 := { stood := { row := jobsCreditUptoRow, standIns := [], harness := (true, "02e771574f02b4683a20261495850a51dcb86f131d45530baf77fcd4b3c5863b"), looks := true }, kinds := [], alts := [], laidByText := true, laidKinds := [.data], laidTests := true, laidLooks := .later }
def JobsCreditUptoCardSaid : Prop := Claim7.holds Tryd.pinned (.plain (OpenSpec.upto jobsCreditSpec)) jobsCreditUptoCard

/-- THE SECOND FORM's CARD OF 'quadrillelaw16.JobsFull'. -/
def jobsFullUptoCard : Claim7 := { stood := { row := jobsFullUptoRow, standIns := [], harness := (true, "02e771574f02b4683a20261495850a51dcb86f131d45530baf77fcd4b3c5863b"), looks := true }, kinds := [], alts := [], laidByText := true, laidKinds := [.data], laidTests := true, laidLooks := .later }
def JobsFullUptoCardSaid : Prop := Claim7.holds Tryd.pinned (.plain (OpenSpec.upto jobsFullSpec)) jobsFullUptoCard

/-- THE SECOND FORM's CARD OF 'quadrillelaw16.JobsApart'. -/
def jobsApartUptoCard : Claim7 := { stood := { row := jobsApartUptoRow, standIns := [], harness := (true, "02e771574f02b4683a20261495850a51dcb86f131d45530baf77fcd4b3c5863b"), looks := true }, kinds := [], alts := [], laidByText := true, laidKinds := [.data], laidTests := true, laidLooks := .later }
def JobsApartUptoCardSaid : Prop := Claim7.holds Tryd.pinned (.plain (OpenSpec.upto jobsApartSpec)) jobsApartUptoCard

/-- THE SECOND FORM's CARD OF 'quadrillelaw16.JobsOnce'. -/
def jobsOnceUptoCard : Claim7 := { stood := { row := jobsOnceUptoRow, standIns := [], harness := (true, "02e771574f02b4683a20261495850a51dcb86f131d45530baf77fcd4b3c5863b"), looks := true }, kinds := [], alts := [], laidByText := true, laidKinds := [.data], laidTests := true, laidLooks := .later }
def JobsOnceUptoCardSaid : Prop := Claim7.holds Tryd.pinned (.plain (OpenSpec.upto jobsOnceSpec)) jobsOnceUptoCard

/-- THE SECOND FORM's CARD OF 'quadrillelaw16.JobsRefused'. -/
def jobsRefusedUptoCard : Claim7 := { stood := { row := jobsRefusedUptoRow, standIns := [], harness := (true, "02e771574f02b4683a20261495850a51dcb86f131d45530baf77fcd4b3c5863b"), looks := true }, kinds := [], alts := [], laidByText := true, laidKinds := [.data], laidTests := true, laidLooks := .later }
def JobsRefusedUptoCardSaid : Prop := Claim7.holds Tryd.pinned (.plain (OpenSpec.upto jobsRefusedSpec)) jobsRefusedUptoCard

/-- THE SECOND FORM's CARD OF 'quadrillelaw16.JobsPlays'. -/
def jobsPlaysUptoCard : Claim7 := { stood := { row := jobsPlaysUptoRow, standIns := [], harness := (true, "02e771574f02b4683a20261495850a51dcb86f131d45530baf77fcd4b3c5863b"), looks := true }, kinds := [], alts := [], laidByText := true, laidKinds := [.data], laidTests := true, laidLooks := .later }
def JobsPlaysUptoCardSaid : Prop := Claim7.holds Tryd.pinned (.plain (OpenSpec.upto jobsPlaysSpec)) jobsPlaysUptoCard
end Rows
end Go.Proofs.YtombndhjoaaaiaaDoor
