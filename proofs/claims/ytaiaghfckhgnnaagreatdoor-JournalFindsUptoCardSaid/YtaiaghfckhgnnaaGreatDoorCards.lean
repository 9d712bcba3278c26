/-
  DERIVED. GIVEN WITH THE SEED: THE CARDS: each row of YtaiaghfckhgnnaaGreatDoorRows.lean that lists a variable, with what it lists TIED to the program's text (the seventh form; the later family's looks); each row that meets fmt, with fmt's text TOLD by the authors' own Lean function (tested against real Go, not proved from fmt's source: count such statements apart). THE CARD IS WHAT COUNTS. Prove the row's statement (the work); the ties are given (YtaiaghfckhgnnaaGreatDoorTie.lean); close each card by the builder's one call (the guide's Derived/Test/ToyasCard.lean, 'card_holds'). Laid BY PROGRAM, IN A SANDBOX (cutbox-door.mjs). By AI agents, Wed Nov 11 2026. No macro, syntax, notation, axiom, sorry.
-/
import Derived.Test.YtaiaghfckhgnnaaGreatDoorRows
import GoSem.ClaimSeven
namespace Go.Proofs.YtaiaghfckhgnnaaGreatDoor
namespace Rows

/-- THE TIED CARD OF 'redraftlaw12.JournalTorn'. -/
def journalTornCard : Claim7 := { stood := { row := journalTornRow, standIns := [], harness := (true, "4e44327b26737b9a8168a64666d5789bee368c5eb82f51374182549a7f9e89d2"), looks := true }, kinds := [], alts := [], laidByText := true, laidKinds := [.handle, .data], laidTests := true, laidLooks := .later }
def JournalTornCardSaid : Prop := Claim7.holds Tryz.pinned (.plain (OpenSpec.ofChange journalTornSpec)) journalTornCard

/-- THE TIED CARD OF 'redraftlaw12.JournalNumbers'. -/
def journalNumbersCard : Claim7 := { stood := { row := journalNumbersRow, standIns := [], harness := (true, "4e44327b26737b9a8168a64666d5789bee368c5eb82f51374182549a7f9e89d2"), looks := true }, kinds := [], alts := [], laidByText := true, laidKinds := [.handle, .data], laidTests := true, laidLooks := .later }
def JournalNumbersCardSaid : Prop := Claim7.holds Tryz.pinned (.plain (OpenSpec.ofChange journalNumbersSpec)) journalNumbersCard

/-- THE TIED CARD OF 'redraftlaw12.JournalHands'. -/
def journalHandsCard : Claim7 := { stood := { row := journalHandsRow, standIns := [], harness := (true, "4e44327b26737b9a8168a64666d5789bee368c5eb82f51374182549a7f9e89d2"), looks := true }, kinds := [], alts := [], laidByText := true, laidKinds := [.handle, .data], laidTests := true, laidLooks := .later }
def JournalHandsCardSaid : Prop := Claim7.holds Tryz.pinned (.plain (OpenSpec.ofChange journalHandsSpec)) journalHandsCard

/-- THE TIED CARD OF 'redraftlaw12.JournalFinds'. -/
def journalFindsCard : Claim7 := { stood := { row := journalFindsRow, standIns := [], harness := (true, "4e44327b26737b9a8168a64666d5789bee368c5eb82f51374182549a7f9e89d2"), looks := true }, kinds := [], alts := [], laidByText := true, laidKinds := [.handle, .data], laidTests := true, laidLooks := .later }
def JournalFindsCardSaid : Prop := Claim7.holds Tryz.pinned (.plain (OpenSpec.ofChange journalFindsSpec)) journalFindsCard

/-- THE TIED CARD OF 'redraftlaw12.JournalExact'. -/
def journalExactCard : Claim7 := { stood := { row := journalExactRow, standIns := [], harness := (true, "4e44327b26737b9a8168a64666d5789bee368c5eb82f51374182549a7f9e89d2"), looks := true }, kinds := [], alts := [], laidByText := true, laidKinds := [.handle, .data], laidTests := true, laidLooks := .later }
def JournalExactCardSaid : Prop := Claim7.holds Tryz.pinned (.plain (OpenSpec.ofChange journalExactSpec)) journalExactCard

/-- THE SECOND FORM's CARD OF 'redraftlaw12.JournalTorn'. -/
def journalTornUptoCard : Claim7 := { stood := { row := journalTornUptoRow, standIns := [], harness := (true, "4e44327b26737b9a8168a64666d5789bee368c5eb82f51374182549a7f9e89d2"), looks := true }, kinds := [], alts := [], laidByText := true, laidKinds := [.handle, .data], laidTests := true, laidLooks := .later }
def JournalTornUptoCardSaid : Prop := Claim7.holds Tryz.pinned (.plain (OpenSpec.upto journalTornSpec)) journalTornUptoCard

/-- THE SECOND FORM's CARD OF 'redraftlaw12.JournalNumbers'. -/
def journalNumbersUptoCard : Claim7 := { stood := { row := journalNumbersUptoRow, standIns := [], harness := (true, "4e44327b26737b9a8168a64666d5789bee368c5eb82f51374182549a7f9e89d2"), looks := true }, kinds := [], alts := [], laidByText := true, laidKinds := [.handle, .data], laidTests := true, laidLooks := .later }
def JournalNumbersUptoCardSaid : Prop := Claim7.holds Tryz.pinned (.plain (OpenSpec.upto journalNumbersSpec)) journalNumbersUptoCard

/-- THE SECOND FORM's CARD OF 'redraftlaw12.JournalHands'. -/
def journalHandsUptoCard : Claim7 := { stood := { row := journalHandsUptoRow, standIns := [], harness := (true, "4e44327b26737b9a8168a64666d5789bee368c5eb82f51374182549a7f9e89d2"), looks := true }, kinds := [], alts := [], laidByText := true, laidKinds := [.handle, .data], laidTests := true, laidLooks := .later }
def JournalHandsUptoCardSaid : Prop := Claim7.holds Tryz.pinned (.plain (OpenSpec.upto journalHandsSpec)) journalHandsUptoCard

/-- THE SECOND FORM's CARD OF 'redraftlaw12.JournalFinds'. -/
def journalFindsUptoCard : Claim7 := { stood := { row := journalFindsUptoRow, standIns := [], harness := (true, "4e44327b26737b9a8168a64666d5789bee368c5eb82f51374182549a7f9e89d2"), looks := true }, kinds := [], alts := [], laidByText := true, laidKinds := [.handle, .data], laidTests := true, laidLooks := .later }
def JournalFindsUptoCardSaid : Prop := Claim7.holds Tryz.pinned (.plain (OpenSpec.upto journalFindsSpec)) journalFindsUptoCard

/-- THE SECOND FORM's CARD OF 'redraftlaw12.JournalExact'. -/
def journalExactUptoCard : Claim7 := { stood := { row := journalExactUptoRow, standIns := [], harness := (true, "4e44327b26737b9a8168a64666d5789bee368c5eb82f51374182549a7f9e89d2"), looks := true }, kinds := [], alts := [], laidByText := true, laidKinds := [.handle, .data], laidTests := true, laidLooks := .later }
def JournalExactUptoCardSaid : Prop := Claim7.holds Tryz.pinned (.plain (OpenSpec.upto journalExactSpec)) journalExactUptoCard
end Rows
end Go.Proofs.YtaiaghfckhgnnaaGreatDoor
