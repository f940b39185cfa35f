/-
  DERIVED. GIVEN WITH THE SEED: THE CARDS: each row of YtkplhhkmchihlaaGreatDoorRows.lean that lists a variable, with what it lists TIED to the program's text (the seventh form; the later family's looks); each row that meets fmt, with fmt's text TOLD by the authors' own Lean function (tested against real Go, not proved from fmt's source: count such statements apart). THE CARD IS WHAT COUNTS. Prove the row's statement (the work); the ties are given (YtkplhhkmchihlaaGreatDoorTie.lean); close each card by the builder's one call (the guide's Derived/Test/ToyasCard.lean, 'card_holds'). Laid BY PROGRAM, IN A SANDBOX (cutbox-door.mjs). By AI agents, Wed Nov 11 2026. No macro, syntax, notation, axiom, sorry.
-/
import Derived.Test.YtkplhhkmchihlaaGreatDoorRows
import GoSem.ClaimSeven
namespace Go.Proofs.YtkplhhkmchihlaaGreatDoor
namespace Rows

/-- THE TIED CARD OF 'rosarylaw25.TellTells'. -/
def tellTellsCard : Claim7 := { stood := { row := tellTellsRow, standIns := [], harness := (true, "aa8cfb3f763424861370324c674eb81bf7e59fd05bbb0fff1f87ad2d6b0714d6"), looks := false }, kinds := [], alts := [], laidByText := true, laidKinds := [.data, .data, .data, .data, .pinned], laidTests := true, laidLooks := .later }
def TellTellsCardSaid : Prop := Claim7.holds Tryz.pinned (.plain (OpenSpec.ofChange tellTellsSpec)) tellTellsCard

/-- THE TIED CARD OF 'rosarylaw25.TellErrors'. -/
def tellErrorsCard : Claim7 := { stood := { row := tellErrorsRow, standIns := [], harness := (true, "aa8cfb3f763424861370324c674eb81bf7e59fd05bbb0fff1f87ad2d6b0714d6"), looks := false }, kinds := [], alts := [], laidByText := true, laidKinds := [.data, .data, .data, .data, .pinned], laidTests := true, laidLooks := .later }
def TellErrorsCardSaid : Prop := Claim7.holds Tryz.pinned (.plain (OpenSpec.ofChange tellErrorsSpec)) tellErrorsCard

/-- THE TIED CARD OF 'rosarylaw25.LayTwo'. -/
def layTwoCard : Claim7 := { stood := { row := layTwoRow, standIns := [], harness := (true, "aa8cfb3f763424861370324c674eb81bf7e59fd05bbb0fff1f87ad2d6b0714d6"), looks := false }, kinds := [], alts := [], laidByText := true, laidKinds := [.data, .data, .data, .data, .pinned], laidTests := true, laidLooks := .later }
def LayTwoCardSaid : Prop := Claim7.holds Tryz.pinned (.plain (OpenSpec.ofChange layTwoSpec)) layTwoCard

/-- THE TIED CARD OF 'rosarylaw25.LayTells'. -/
def layTellsCard : Claim7 := { stood := { row := layTellsRow, standIns := [], harness := (true, "aa8cfb3f763424861370324c674eb81bf7e59fd05bbb0fff1f87ad2d6b0714d6"), looks := false }, kinds := [], alts := [], laidByText := true, laidKinds := [.data, .data, .data, .data, .pinned], laidTests := true, laidLooks := .later }
def LayTellsCardSaid : Prop := Claim7.holds Tryz.pinned (.plain (OpenSpec.ofChange layTellsSpec)) layTellsCard

/-- THE SECOND FORM's CARD OF 'rosarylaw25.TellTells'. -/
def tellTellsUptoCard : Claim7 := { stood := { row := tellTellsUptoRow, standIns := [], harness := (true, "aa8cfb3f763424861370324c674eb81bf7e59fd05bbb0fff1f87ad2d6b0714d6"), looks := false }, kinds := [], alts := [], laidByText := true, laidKinds := [.data, .data, .data, .data, .pinned], laidTests := true, laidLooks := .later }
def TellTellsUptoCardSaid : Prop := Claim7.holds Tryz.pinned (.plain (OpenSpec.upto tellTellsSpec)) tellTellsUptoCard

/-- THE SECOND FORM's CARD OF 'rosarylaw25.TellErrors'. -/
def tellErrorsUptoCard : Claim7 := { stood := { row := tellErrorsUptoRow, standIns := [], harness := (true, "aa8cfb3f763424861370324c674eb81bf7e59fd05bbb0fff1f87ad2d6b0714d6"), looks := false }, kinds := [], alts := [], laidByText := true, laidKinds := [.data, .data, .data, .data, .pinned], laidTests := true, laidLooks := .later }
def TellErrorsUptoCardSaid : Prop := Claim7.holds Tryz.pinned (.plain (OpenSpec.upto tellErrorsSpec)) tellErrorsUptoCard

/-- THE SECOND FORM's CARD OF 'rosarylaw25.LayTwo'. -/
def layTwoUptoCard : Claim7 := { stood := { row := layTwoUptoRow, standIns := [], harness := (true, "aa8cfb3f763424861370324c674eb81bf7e59fd05bbb0fff1f87ad2d6b0714d6"), looks := false }, kinds := [], alts := [], laidByText := true, laidKinds := [.data, .data, .data, .data, .pinned], laidTests := true, laidLooks := .later }
def LayTwoUptoCardSaid : Prop := Claim7.holds Tryz.pinned (.plain (OpenSpec.upto layTwoSpec)) layTwoUptoCard

/-- THE SECOND FORM's CARD OF 'rosarylaw25.LayTells'. -/
def layTellsUptoCard : Claim7 := { stood := { row := layTellsUptoRow, standIns := [], harness := (true, "aa8cfb3f763424861370324c674eb81bf7e59fd05bbb0fff1f87ad2d6b0714d6"), looks := false }, kinds := [], alts := [], laidByText := true, laidKinds := [.data, .data, .data, .data, .pinned], laidTests := true, laidLooks := .later }
def LayTellsUptoCardSaid : Prop := Claim7.holds Tryz.pinned (.plain (OpenSpec.upto layTellsSpec)) layTellsUptoCard
end Rows
end Go.Proofs.YtkplhhkmchihlaaGreatDoor
