/-
  DERIVED. GIVEN WITH THE SEED: THE CARDS: each row of YtcoghkkhjaokmaaDoorRows.lean that lists a variable, with what it lists TIED to the program's text (the seventh form; the later family's looks); each row that meets fmt, with fmt's text TOLD by the authors' own Lean function (tested against real Go, not proved from fmt's source: count such statements apart). THE CARD IS WHAT COUNTS. Prove the row's statement (the work); the ties are given (YtcoghkkhjaokmaaDoorTie.lean); close each card by the builder's one call (the guide's Derived/Test/ToyasCard.lean, 'card_holds'). Laid BY PROGRAM, IN A SANDBOX (cutbox-door.mjs). By AI agents, Wed Nov 11 2026. No macro, syntax, notation, axiom, sorry.
-/
import Derived.Test.YtcoghkkhjaokmaaDoorRows
import GoSem.ClaimSeven
namespace Go.Proofs.YtcoghkkhjaokmaaDoor
namespace Rows

/-- THE TIED CARD OF 'colonnadelaw27.ReptApart'. -/
def reptApartCard : Claim7 := { stood := { row := reptApartRow, standIns := [], harness := (true, "1dd89cb76e337b4471ce7b6857dc50a77603b418f5c8cbf320a0a7b18ece9219"), looks := true }, kinds := [], alts := [], laidByText := true, laidKinds := [.data, .data, .data], laidTests := true, laidLooks := .later }
def ReptApartCardSaid : Prop := Claim7.holds Tryd.pinned (.plain (OpenSpec.ofChange reptApartSpec)) reptApartCard

/-- THE TIED CARD OF 'colonnadelaw25.TextApart'. -/
def textApartCard : Claim7 := { stood := { row := textApartRow, standIns := [], harness := (true, "1dd89cb76e337b4471ce7b6857dc50a77603b418f5c8cbf320a0a7b18ece9219"), looks := true }, kinds := [], alts := [], laidByText := true, laidKinds := [.data, .data, .data, .data, .sentinel, .sentinel, .pinned], laidTests := true, laidLooks := .later }
def TextApartCardSaid : Prop := Claim7.holds Tryd.pinned (.plain (OpenSpec.ofChange textApartSpec)) textApartCard

/-- THE TIED CARD OF 'colonnadelaw25.TextForms'. -/
def textFormsCard : Claim7 := { stood := { row := textFormsRow, standIns := [], harness := (true, "1dd89cb76e337b4471ce7b6857dc50a77603b418f5c8cbf320a0a7b18ece9219"), looks := true }, kinds := [], alts := [], laidByText := true, laidKinds := [.data, .data, .data, .data, .sentinel, .sentinel, .pinned], laidTests := true, laidLooks := .later }
def TextFormsCardSaid : Prop := Claim7.holds Tryd.pinned (.plain (OpenSpec.ofChange textFormsSpec)) textFormsCard

/-- THE SECOND FORM's CARD OF 'colonnadelaw27.ReptApart'. -/
def reptApartUptoCard : Claim7 := { stood := { row := reptApartUptoRow, standIns := [], harness := (true, "1dd89cb76e337b4471ce7b6857dc50a77603b418f5c8cbf320a0a7b18ece9219"), looks := true }, kinds := [], alts := [], laidByText := true, laidKinds := [.data, .data, .data], laidTests := true, laidLooks := .later }
def ReptApartUptoCardSaid : Prop := Claim7.holds Tryd.pinned (.plain (OpenSpec.upto reptApartSpec)) reptApartUptoCard

/-- THE SECOND FORM's CARD OF 'colonnadelaw25.TextApart'. -/
def textApartUptoCard : Claim7 := { stood := { row := textApartUptoRow, standIns := [], harness := (true, "1dd89cb76e337b4471ce7b6857dc50a77603b418f5c8cbf320a0a7b18ece9219"), looks := true }, kinds := [], alts := [], laidByText := true, laidKinds := [.data, .data, .data, .data, .sentinel, .sentinel, .pinned], laidTests := true, laidLooks := .later }
def TextApartUptoCardSaid : Prop := Claim7.holds Tryd.pinned (.plain (OpenSpec.upto textApartSpec)) textApartUptoCard

/-- THE SECOND FORM's CARD OF 'colonnadelaw25.TextForms'. -/
def textFormsUptoCard : Claim7 := { stood := { row := textFormsUptoRow, standIns := [], harness := (true, "1dd89cb76e337b4471ce7b6857dc50a77603b418f5c8cbf320a0a7b18ece9219"), looks := true }, kinds := [], alts := [], laidByText := true, laidKinds := [.data, .data, .data, .data, .sentinel, .sentinel, .pinned], laidTests := true, laidLooks := .later }
def TextFormsUptoCardSaid : Prop := Claim7.holds Tryd.pinned (.plain (OpenSpec.upto textFormsSpec)) textFormsUptoCard
end Rows
end Go.Proofs.YtcoghkkhjaokmaaDoor
