/-
  DERIVED. GIVEN WITH THE SEED: THE CARDS: each row of YtkiejckaaipdkaaDoorRows.lean that lists a variable, with what it lists TIED to the program's text (the seventh form; the later family's looks); each row that meets fmt, with fmt's text TOLD by the authors' own Lean function (tested against real Go, not proved from fmt's source: count such statements apart). THE CARD IS WHAT COUNTS. Prove the row's statement (the work); the ties are given (YtkiejckaaipdkaaDoorTie.lean); close each card by the builder's one call (the guide's Derived/Test/ToyasCard.lean, 'card_holds'). Laid BY PROGRAM, IN A SANDBOX (cutbox-door.mjs). By AI agents, Wed Nov 11 2026. No macro, syntax, notation, axiom, sorry.
-/
import Derived.Test.YtkiejckaaipdkaaDoorRows
import GoSem.ClaimSeven
namespace Go.Proofs.YtkiejckaaipdkaaDoor
namespace Rows

/-- THE TIED CARD OF 'laws.FnExactStoreLines'. -/
def fnExactStoreLinesCard : Claim7 := { stood := { row := fnExactStoreLinesRow, standIns := [], harness := (true, "946d02140bf38db0fe59a6540eb4274793d54866a1e79e38de3bc15cc1ca9e6f"), looks := false }, kinds := [], alts := [], laidByText := true, laidKinds := [.data, .data, .data], laidTests := true, laidLooks := .later }
def FnExactStoreLinesCardSaid : Prop := Claim7.holds Tryd.pinned (.plain (OpenSpec.ofChange fnExactStoreLinesSpec)) fnExactStoreLinesCard

/-- THE SECOND FORM's CARD OF 'laws.FnExactStoreLines'. -/
def fnExactStoreLinesUptoCard : Claim7 := { stood := { row := fnExactStoreLinesUptoRow, standIns := [], harness := (true, "946d02140bf38db0fe59a6540eb4274793d54866a1e79e38de3bc15cc1ca9e6f"), looks := false }, kinds := [], alts := [], laidByText := true, laidKinds := [.data, .data, .data], laidTests := true, laidLooks := .later }
def FnExactStoreLinesUptoCardSaid : Prop := Claim7.holds Tryd.pinned (.plain (OpenSpec.upto fnExactStoreLinesSpec)) fnExactStoreLinesUptoCard
end Rows
end Go.Proofs.YtkiejckaaipdkaaDoor
