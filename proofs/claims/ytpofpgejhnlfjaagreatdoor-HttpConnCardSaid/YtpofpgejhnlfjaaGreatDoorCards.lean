/-
  DERIVED. GIVEN WITH THE SEED: THE CARDS: each row of YtpofpgejhnlfjaaGreatDoorRows.lean that lists a variable, with what it lists TIED to the program's text (the seventh form; the later family's looks); each row that meets fmt, with fmt's text TOLD by the authors' own Lean function (tested against real Go, not proved from fmt's source: count such statements apart). THE CARD IS WHAT COUNTS. Prove the row's statement (the work); the ties are given (YtpofpgejhnlfjaaGreatDoorTie.lean); close each card by the builder's one call (the guide's Derived/Test/ToyasCard.lean, 'card_holds'). Laid BY PROGRAM, IN A SANDBOX (cutbox-door.mjs). By AI agents, Wed Nov 11 2026. No macro, syntax, notation, axiom, sorry.
-/
import Derived.Test.YtpofpgejhnlfjaaGreatDoorRows
import GoSem.ClaimSeven
namespace Go.Proofs.YtpofpgejhnlfjaaGreatDoor
namespace Rows

/-- THE TIED CARD OF 'bootprintlaw27.HttpPieces'. -/
def httpPiecesCard : Claim7 := { stood := { row := httpPiecesRow, standIns := [], harness := (true, "cc0331f110b0a324f7e57aa95beaa8e0bfc88d145c346cb26a46f355d806a71e"), looks := true }, kinds := [], alts := [], laidByText := true, laidKinds := [.data, .data, .data, .data, .sentinel, .sentinel, .pinned, .pinned], laidTests := true, laidLooks := .later }
def HttpPiecesCardSaid : Prop := Claim7.holds Tryz.pinned (.plain (OpenSpec.ofChange httpPiecesSpec)) httpPiecesCard

/-- THE TIED CARD OF 'bootprintlaw27.HttpConn'. -/
def httpConnCard : Claim7 := { stood := { row := httpConnRow, standIns := [], harness := (true, "cc0331f110b0a324f7e57aa95beaa8e0bfc88d145c346cb26a46f355d806a71e"), looks := true }, kinds := [], alts := [], laidByText := true, laidKinds := [.data, .data, .data, .data, .sentinel, .sentinel, .pinned, .pinned], laidTests := true, laidLooks := .later }
def HttpConnCardSaid : Prop := Claim7.holds Tryz.pinned (.plain (OpenSpec.ofChange httpConnSpec)) httpConnCard

/-- THE TIED CARD OF 'bootprintlaw27.HttpCalls'. -/
def httpCallsCard : Claim7 := { stood := { row := httpCallsRow, standIns := [], harness := (true, "cc0331f110b0a324f7e57aa95beaa8e0bfc88d145c346cb26a46f355d806a71e"), looks := true }, kinds := [], alts := [], laidByText := true, laidKinds := [.data, .data, .data, .data, .sentinel, .sentinel, .pinned, .pinned], laidTests := true, laidLooks := .later }
def HttpCallsCardSaid : Prop := Claim7.holds Tryz.pinned (.plain (OpenSpec.ofChange httpCallsSpec)) httpCallsCard

/-- THE TIED CARD OF 'bootprintlaw27.HttpBack'. -/
def httpBackCard : Claim7 := { stood := { row := httpBackRow, standIns := [], harness := (true, "cc0331f110b0a324f7e57aa95beaa8e0bfc88d145c346cb26a46f355d806a71e"), looks := true }, kinds := [], alts := [], laidByText := true, laidKinds := [.data, .data, .data, .data, .sentinel, .sentinel, .pinned, .pinned], laidTests := true, laidLooks := .later }
def HttpBackCardSaid : Prop := Claim7.holds Tryz.pinned (.plain (OpenSpec.ofChange httpBackSpec)) httpBackCard

/-- THE SECOND FORM's CARD OF 'bootprintlaw27.HttpPieces'. -/
def httpPiecesUptoCard : Claim7 := { stood := { row := httpPiecesUptoRow, standIns := [], harness := (true, "cc0331f110b0a324f7e57aa95beaa8e0bfc88d145c346cb26a46f355d806a71e"), looks := true }, kinds := [], alts := [], laidByText := true, laidKinds := [.data, .data, .data, .data, .sentinel, .sentinel, .pinned, .pinned], laidTests := true, laidLooks := .later }
def HttpPiecesUptoCardSaid : Prop := Claim7.holds Tryz.pinned (.plain (OpenSpec.upto httpPiecesSpec)) httpPiecesUptoCard

/-- THE SECOND FORM's CARD OF 'bootprintlaw27.HttpConn'. -/
def httpConnUptoCard : Claim7 := { stood := { row := httpConnUptoRow, standIns := [], harness := (true, "cc0331f110b0a324f7e57aa95beaa8e0bfc88d145c346cb26a46f355d806a71e"), looks := true }, kinds := [], alts := [], laidByText := true, laidKinds := [.data, .data, .data, .data, .sentinel, .sentinel, .pinned, .pinned], laidTests := true, laidLooks := .later }
def HttpConnUptoCardSaid : Prop := Claim7.holds Tryz.pinned (.plain (OpenSpec.upto httpConnSpec)) httpConnUptoCard

/-- THE SECOND FORM's CARD OF 'bootprintlaw27.HttpCalls'. -/
def httpCallsUptoCard : Claim7 := { stood := { row := httpCallsUptoRow, standIns := [], harness := (true, "cc0331f110b0a324f7e57aa95beaa8e0bfc88d145c346cb26a46f355d806a71e"), looks := true }, kinds := [], alts := [], laidByText := true, laidKinds := [.data, .data, .data, .data, .sentinel, .sentinel, .pinned, .pinned], laidTests := true, laidLooks := .later }
def HttpCallsUptoCardSaid : Prop := Claim7.holds Tryz.pinned (.plain (OpenSpec.upto httpCallsSpec)) httpCallsUptoCard

/-- THE SECOND FORM's CARD OF 'bootprintlaw27.HttpBack'. -/
def httpBackUptoCard : Claim7 := { stood := { row := httpBackUptoRow, standIns := [], harness := (true, "cc0331f110b0a324f7e57aa95beaa8e0bfc88d145c346cb26a46f355d806a71e"), looks := true }, kinds := [], alts := [], laidByText := true, laidKinds := [.data, .data, .data, .data, .sentinel, .sentinel, .pinned, .pinned], laidTests := true, laidLooks := .later }
def HttpBackUptoCardSaid : Prop := Claim7.holds Tryz.pinned (.plain (OpenSpec.upto httpBackSpec)) httpBackUptoCard
end Rows
end Go.Proofs.YtpofpgejhnlfjaaGreatDoor
