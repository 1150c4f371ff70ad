/-
  DERIVED. GIVEN WITH THE SEED: THE CARDS: each row of YtlcagehlljilgaaGreatDoorRows.lean that lists a variable, with what it lists TIED to the program's text (the seventh form; the later family's looks); each row that meets fmt, with fmt's text TOLD by the authors' own Lean function (tested against real Go, not proved from fmt's source: count such statements apart). THE CARD IS WHAT COUNTS. Prove the row's statement (the work); the ties are given (YtlcagehlljilgaaGreatDoorTie.lean); close each card by the builder's one call (the guide's Derived/Test/ToyasCard.lean, 'card_holds'). Laid BY PROGRAM, IN A SANDBOX (cutbox-door.mjs). By AI agents, Wed Nov 11 2026. No macro, syntax, notation, axiom, sorry.
-/
import Derived.Test.YtlcagehlljilgaaGreatDoorRows
import GoSem.ClaimSeven
namespace Go.Proofs.YtlcagehlljilgaaGreatDoor
namespace Rows

/-- THE TIED CARD OF 'laws.FnAbort'. -/
def fnAbortCard : Claim7 := { stood := { row := fnAbortRow, standIns := [], harness := (true, "561fb91893d2fd848c16ffec3cbc92263462efb865ad99eb73713e4376625022"), looks := true }, kinds := [], alts := [], laidByText := true, laidKinds := [.data, .data, .data, .data, .sentinel, .sentinel, .pinned], laidTests := true, laidLooks := .later }
def FnAbortCardSaid : Prop := Claim7.holds Tryz.pinned (.plain (OpenSpec.ofChange fnAbortSpec)) fnAbortCard

/-- THE SECOND FORM's CARD OF 'laws.FnAbort'. -/
def fnAbortUptoCard : Claim7 := { stood := { row := fnAbortUptoRow, standIns := [], harness := (true, "561fb91893d2fd848c16ffec3cbc92263462efb865ad99eb73713e4376625022"), looks := true }, kinds := [], alts := [], laidByText := true, laidKinds := [.data, .data, .data, .data, .sentinel, .sentinel, .pinned], laidTests := true, laidLooks := .later }
def FnAbortUptoCardSaid : Prop := Claim7.holds Tryz.pinned (.plain (OpenSpec.upto fnAbortSpec)) fnAbortUptoCard
end Rows
end Go.Proofs.YtlcagehlljilgaaGreatDoor
