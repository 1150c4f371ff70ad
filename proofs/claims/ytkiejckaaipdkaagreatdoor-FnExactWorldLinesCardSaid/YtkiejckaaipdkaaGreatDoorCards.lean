/-
  DERIVED. GIVEN WITH THE SEED: THE CARDS: each row of YtkiejckaaipdkaaGreatDoorRows.lean that lists a variable, with what it lists TIED to the program's text (the seventh form; the later family's looks); each row that meets fmt, with fmt's text TOLD by the authors' own Lean function (tested against real Go, not proved from fmt's source: count such statements apart). THE CARD IS WHAT COUNTS. Prove the row's statement (the work); the ties are given (YtkiejckaaipdkaaGreatDoorTie.lean); close each card by the builder's one call (the guide's Derived/Test/ToyasCard.lean, 'card_holds'). Laid BY PROGRAM, IN A SANDBOX (cutbox-door.mjs). By AI agents, Wed Nov 11 2026. No macro, syntax, notation, axiom, sorry.
-/
import Derived.Test.YtkiejckaaipdkaaGreatDoorRows
import GoSem.ClaimSeven
namespace Go.Proofs.YtkiejckaaipdkaaGreatDoor
namespace Rows

/-- THE TIED CARD OF 'laws.FnExactWorldLines'. -/
def fnExactWorldLinesCard : Claim7 := { stood := { row := fnExactWorldLinesRow, standIns := [], harness := (true, "9fcaddffea72e9dfdcd95a19fe1eaf191c0cb0f4e6034807ab6580a3a181150e"), looks := true }, kinds := [], alts := [], laidByText := true, laidKinds := [.data, .data, .data], laidTests := true, laidLooks := .later }
def FnExactWorldLinesCardSaid : Prop := Claim7.holds Tryz.pinned (.plain (OpenSpec.ofChange fnExactWorldLinesSpec)) fnExactWorldLinesCard

/-- THE TIED CARD OF 'laws.FnExactReadAct'. -/
def fnExactReadActCard : Claim7 := { stood := { row := fnExactReadActRow, standIns := [], harness := (true, "9fcaddffea72e9dfdcd95a19fe1eaf191c0cb0f4e6034807ab6580a3a181150e"), looks := true }, kinds := [], alts := [], laidByText := true, laidKinds := [.data, .data, .data, .data, .sentinel, .sentinel, .pinned], laidTests := true, laidLooks := .later }
def FnExactReadActCardSaid : Prop := Claim7.holds Tryz.pinned (.plain (OpenSpec.ofChange fnExactReadActSpec)) fnExactReadActCard

/-- THE SECOND FORM's CARD OF 'laws.FnExactWorldLines'. -/
def fnExactWorldLinesUptoCard : Claim7 := { stood := { row := fnExactWorldLinesUptoRow, standIns := [], harness := (true, "9fcaddffea72e9dfdcd95a19fe1eaf191c0cb0f4e6034807ab6580a3a181150e"), looks := true }, kinds := [], alts := [], laidByText := true, laidKinds := [.data, .data, .data], laidTests := true, laidLooks := .later }
def FnExactWorldLinesUptoCardSaid : Prop := Claim7.holds Tryz.pinned (.plain (OpenSpec.upto fnExactWorldLinesSpec)) fnExactWorldLinesUptoCard

/-- THE SECOND FORM's CARD OF 'laws.FnExactReadAct'. -/
def fnExactReadActUptoCard : Claim7 := { stood := { row := fnExactReadActUptoRow, standIns := [], harness := (true, "9fcaddffea72e9dfdcd95a19fe1eaf191c0cb0f4e6034807ab6580a3a181150e"), looks := true }, kinds := [], alts := [], laidByText := true, laidKinds := [.data, .data, .data, .data, .sentinel, .sentinel, .pinned], laidTests := true, laidLooks := .later }
def FnExactReadActUptoCardSaid : Prop := Claim7.holds Tryz.pinned (.plain (OpenSpec.upto fnExactReadActSpec)) fnExactReadActUptoCard
end Rows
end Go.Proofs.YtkiejckaaipdkaaGreatDoor
