/-
  DERIVED. GIVEN WITH THE SEED: THE CARDS: each row of YtaiaghfckhgnnaaDoorRows.lean that lists a variable, with what it lists TIED to the program's text (the seventh form; the later family's looks); each row that meets fmt, with fmt's text TOLD by the authors' own Lean function (tested against real Go, not proved from fmt's source: count such statements apart). THE CARD IS WHAT COUNTS. Prove the row's statement (the work); the ties are given (YtaiaghfckhgnnaaDoorTie.lean); close each card by the builder's one call (the guide's Derived/Test/ToyasCard.lean, 'card_holds'). Laid BY PROGRAM, IN A SANDBOX (cutbox-door.mjs). By AI agents, Wed Nov 11 2026. No macro, syntax, notation, axiom, sorry.
-/
import Derived.Test.YtaiaghfckhgnnaaDoorRows
import GoSem.ClaimSeven
namespace Go.Proofs.YtaiaghfckhgnnaaDoor
namespace Rows

/-- THE TIED CARD OF 'redraftlaw12.JournalFull'. -/
def journalFullCard : Claim7 := { stood := { row := journalFullRow, standIns := [], harness := (true, "082fa937cd65839c1d586d7a5e6da8098801f278e6ad1ef5969548bd3813b5f8"), looks := true }, kinds := [], alts := [], laidByText := true, laidKinds := [.handle, .data], laidTests := true, laidLooks := .later }
def JournalFullCardSaid : Prop := Claim7.holds Tryd.pinned (.plain (OpenSpec.ofChange journalFullSpec)) journalFullCard

/-- THE TIED CARD OF 'redraftlaw12.JournalLong'. -/
def journalLongCard : Claim7 := { stood := { row := journalLongRow, standIns := [], harness := (true, "082fa937cd65839c1d586d7a5e6da8098801f278e6ad1ef5969548bd3813b5f8"), looks := true }, kinds := [], alts := [], laidByText := true, laidKinds := [.handle, .data], laidTests := true, laidLooks := .later }
def JournalLongCardSaid : Prop := Claim7.holds Tryd.pinned (.plain (OpenSpec.ofChange journalLongSpec)) journalLongCard

/-- THE SECOND FORM's CARD OF 'redraftlaw12.JournalFull'. -/
def journalFullUptoCard : Claim7 := { stood := { row := journalFullUptoRow, standIns := [], harness := (true, "082fa937cd65839c1d586d7a5e6da8098801f278e6ad1ef5969548bd3813b5f8"), looks := true }, kinds := [], alts := [], laidByText := true, laidKinds := [.handle, .data], laidTests := true, laidLooks := .later }
def JournalFullUptoCardSaid : Prop := Claim7.holds Tryd.pinned (.plain (OpenSpec.upto journalFullSpec)) journalFullUptoCard

/-- THE SECOND FORM's CARD OF 'redraftlaw12.JournalLong'. -/
def journalLongUptoCard : Claim7 := { stood := { row := journalLongUptoRow, standIns := [], harness := (true, "082fa937cd65839c1d586d7a5e6da8098801f278e6ad1ef5969548bd3813b5f8"), looks := true }, kinds := [], alts := [], laidByText := true, laidKinds := [.handle, .data], laidTests := true, laidLooks := .later }
def JournalLongUptoCardSaid : Prop := Claim7.holds Tryd.pinned (.plain (OpenSpec.upto journalLongSpec)) journalLongUptoCard
end Rows
end Go.Proofs.YtaiaghfckhgnnaaDoor
