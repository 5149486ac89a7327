/-
  DERIVED. GIVEN WITH THE SEED: THE CARDS: each row of YtcoghkkhjaokmaaGreatDoorRows.lean that lists a variable, with what it lists TIED to the program's text (the seventh form; the later family's looks); each row that meets fmt, with fmt's text TOLD by the authors' own Lean function (tested against real Go, not proved from fmt's source: count such statements apart). THE CARD IS WHAT COUNTS. Prove the row's statement (the work); the ties are given (YtcoghkkhjaokmaaGreatDoorTie.lean); close each card by the builder's one call (the guide's Derived/Test/ToyasCard.lean, 'card_holds'). Laid BY PROGRAM, IN A SANDBOX (cutbox-door.mjs). By AI agents, Wed Nov 11 2026. No macro, syntax, notation, axiom, sorry.
-/
import Derived.Test.YtcoghkkhjaokmaaGreatDoorRows
import GoSem.ClaimSeven
namespace Go.Proofs.YtcoghkkhjaokmaaGreatDoor
namespace Rows

/-- THE TIED CARD OF 'colonnadelaw25.TextTells'. -/
def textTellsCard : Claim7 := { stood := { row := textTellsRow, standIns := [], harness := (true, "594d37dd2f756770823c7385765a21cea85a7b8ca348cfae0022e0ea5f471036"), looks := true }, kinds := [], alts := [], laidByText := true, laidKinds := [.data, .data, .data, .data, .sentinel, .sentinel, .pinned], laidTests := true, laidLooks := .later }
def TextTellsCardSaid : Prop := Claim7.holds Tryz.pinned (.plain (OpenSpec.ofChange textTellsSpec)) textTellsCard

/-- THE TIED CARD OF 'colonnadelaw26.ProgBack'. -/
def progBackCard : Claim7 := { stood := { row := progBackRow, standIns := [], harness := (true, "594d37dd2f756770823c7385765a21cea85a7b8ca348cfae0022e0ea5f471036"), looks := true }, kinds := [], alts := [], laidByText := true, laidKinds := [.data, .data, .data, .data, .sentinel, .sentinel, .pinned], laidTests := true, laidLooks := .later }
def ProgBackCardSaid : Prop := Claim7.holds Tryz.pinned (.plain (OpenSpec.ofChange progBackSpec)) progBackCard

/-- THE TIED CARD OF 'colonnadelaw26.ProgTells'. -/
def progTellsCard : Claim7 := { stood := { row := progTellsRow, standIns := [], harness := (true, "594d37dd2f756770823c7385765a21cea85a7b8ca348cfae0022e0ea5f471036"), looks := true }, kinds := [], alts := [], laidByText := true, laidKinds := [.data, .data, .data, .data, .sentinel, .sentinel, .pinned], laidTests := true, laidLooks := .later }
def ProgTellsCardSaid : Prop := Claim7.holds Tryz.pinned (.plain (OpenSpec.ofChange progTellsSpec)) progTellsCard

/-- THE TIED CARD OF 'colonnadelaw26.ProgForms'. -/
def progFormsCard : Claim7 := { stood := { row := progFormsRow, standIns := [], harness := (true, "594d37dd2f756770823c7385765a21cea85a7b8ca348cfae0022e0ea5f471036"), looks := true }, kinds := [], alts := [], laidByText := true, laidKinds := [.data, .data, .data, .data, .sentinel, .sentinel, .pinned], laidTests := true, laidLooks := .later }
def ProgFormsCardSaid : Prop := Claim7.holds Tryz.pinned (.plain (OpenSpec.ofChange progFormsSpec)) progFormsCard

/-- THE TIED CARD OF 'colonnadelaw26.ProgSchemas'. -/
def progSchemasCard : Claim7 := { stood := { row := progSchemasRow, standIns := [], harness := (true, "594d37dd2f756770823c7385765a21cea85a7b8ca348cfae0022e0ea5f471036"), looks := true }, kinds := [], alts := [], laidByText := true, laidKinds := [.data, .data, .data, .data, .sentinel, .sentinel, .pinned], laidTests := true, laidLooks := .later }
def ProgSchemasCardSaid : Prop := Claim7.holds Tryz.pinned (.plain (OpenSpec.ofChange progSchemasSpec)) progSchemasCard

/-- THE SECOND FORM's CARD OF 'colonnadelaw25.TextTells'. -/
def textTellsUptoCard : Claim7 := { stood := { row := textTellsUptoRow, standIns := [], harness := (true, "594d37dd2f756770823c7385765a21cea85a7b8ca348cfae0022e0ea5f471036"), looks := true }, kinds := [], alts := [], laidByText := true, laidKinds := [.data, .data, .data, .data, .sentinel, .sentinel, .pinned], laidTests := true, laidLooks := .later }
def TextTellsUptoCardSaid : Prop := Claim7.holds Tryz.pinned (.plain (OpenSpec.upto textTellsSpec)) textTellsUptoCard

/-- THE SECOND FORM's CARD OF 'colonnadelaw26.ProgBack'. -/
def progBackUptoCard : Claim7 := { stood := { row := progBackUptoRow, standIns := [], harness := (true, "594d37dd2f756770823c7385765a21cea85a7b8ca348cfae0022e0ea5f471036"), looks := true }, kinds := [], alts := [], laidByText := true, laidKinds := [.data, .data, .data, .data, .sentinel, .sentinel, .pinned], laidTests := true, laidLooks := .later }
def ProgBackUptoCardSaid : Prop := Claim7.holds Tryz.pinned (.plain (OpenSpec.upto progBackSpec)) progBackUptoCard

/-- THE SECOND FORM's CARD OF 'colonnadelaw26.ProgTells'. -/
def progTellsUptoCard : Claim7 := { stood := { row := progTellsUptoRow, standIns := [], harness := (true, "594d37dd2f756770823c7385765a21cea85a7b8ca348cfae0022e0ea5f471036"), looks := true }, kinds := [], alts := [], laidByText := true, laidKinds := [.data, .data, .data, .data, .sentinel, .sentinel, .pinned], laidTests := true, laidLooks := .later }
def ProgTellsUptoCardSaid : Prop := Claim7.holds Tryz.pinned (.plain (OpenSpec.upto progTellsSpec)) progTellsUptoCard

/-- THE SECOND FORM's CARD OF 'colonnadelaw26.ProgForms'. -/
def progFormsUptoCard : Claim7 := { stood := { row := progFormsUptoRow, standIns := [], harness := (true, "594d37dd2f756770823c7385765a21cea85a7b8ca348cfae0022e0ea5f471036"), looks := true }, kinds := [], alts := [], laidByText := true, laidKinds := [.data, .data, .data, .data, .sentinel, .sentinel, .pinned], laidTests := true, laidLooks := .later }
def ProgFormsUptoCardSaid : Prop := Claim7.holds Tryz.pinned (.plain (OpenSpec.upto progFormsSpec)) progFormsUptoCard

/-- THE SECOND FORM's CARD OF 'colonnadelaw26.ProgSchemas'. -/
def progSchemasUptoCard : Claim7 := { stood := { row := progSchemasUptoRow, standIns := [], harness := (true, "594d37dd2f756770823c7385765a21cea85a7b8ca348cfae0022e0ea5f471036"), looks := true }, kinds := [], alts := [], laidByText := true, laidKinds := [.data, .data, .data, .data, .sentinel, .sentinel, .pinned], laidTests := true, laidLooks := .later }
def ProgSchemasUptoCardSaid : Prop := Claim7.holds Tryz.pinned (.plain (OpenSpec.upto progSchemasSpec)) progSchemasUptoCard
end Rows
end Go.Proofs.YtcoghkkhjaokmaaGreatDoor
