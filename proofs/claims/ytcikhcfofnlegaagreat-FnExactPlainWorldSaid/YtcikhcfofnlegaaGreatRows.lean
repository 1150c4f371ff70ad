/-
  No cell of these rows narrows 'for every input' (looked for: loops, veiled, ifaces, maps, wideKeys, modest, calm, conditions, laid).
  DERIVED. THE GIVEN ROWS OF THIS SEAT. 7 by the template 'for every input the law returns true; each argument reads behind the call as it read before'; 0 by the template 'total and deterministic' (their statements: YtcikhcfofnlegaaGreatTotals.lean).
  GIVEN WITH THE SEED: the statements are not yours to turn. If you find one false, say at which input.
  Laid BY PROGRAM, IN A SANDBOX (cutbox-rows.mjs): the forced cells as the released guide's own fill.sh prints them over the translation 906e0c6e31b9137b… (all of the seat's roots in one cut). By AI agents, Wed Nov 11 2026. No macro, syntax, notation, axiom, sorry.
-/
import Derived.Test.YtcikhcfofnlegaaGreatChecked
import GoSem.Claim
import GoSem.ClaimJoined
import GoSem.ClaimMapViews
import Derived.JoinedTies
import Derived.KernelRfl
namespace Go.Proofs.YtcikhcfofnlegaaGreat
/- THE CELL 'sum', in the pinned program and in every row, IS THE sha256 OF THE DUMP (.gsa) THAT YtcikhcfofnlegaaGreatProg.lean LOADS. Nothing in Lean hashes anything: it is a label: what it is worth is what the hold of that sum in a sandbox is worth. -/
noncomputable def Tryz.pinned : Pinned := { name := "ytcikhcfofnlegaagreat", sum := "906e0c6e31b9137b460e4ff1924e1b7c0c77b6f2ea96c3f3684b2763635ace2f", checked := Tryz.checked }
namespace Rows
def none {H : Type} : Left H := { results := [], args := [] }

/-- 'laws.FnExactNewWorld': WHATEVER THE INPUT: true; the input reads as it did. -/
def fnExactNewWorldSpec : ChangeSpec := { name := "fnExactNewWorld", fn := fun _ => fun
  | [d1, d2] => { results := [.lit (.bool true)], args := [d1, d2] }
  | _ => none }
def fnExactNewWorldRow : OpenClaim := { program := "ytcikhcfofnlegaagreat", sum := "906e0c6e31b9137b460e4ff1924e1b7c0c77b6f2ea96c3f3684b2763635ace2f", func := "loop.example/g00548/laws.FnExactNewWorld", spec := "fnExactNewWorld", inPlace := ["internal/abi.NoEscape", "internal/bytealg.MakeNoZero"], unfollowed := true, recurses := true, apart := false }
def FnExactNewWorldSaid : Prop := fnExactNewWorldRow.holds Tryz.pinned (OpenSpec.ofChange fnExactNewWorldSpec)

/-- ITS FALSE NEIGHBOUR: 'it returns false'. Refute it at one input. -/
def fnExactNewWorldWrong : ChangeSpec := { name := "fnExactNewWorld", fn := fun _ => fun
  | [d1, d2] => { results := [.lit (.bool false)], args := [d1, d2] }
  | _ => none }
def FnExactNewWorldWrongFalsely : Prop := fnExactNewWorldRow.holds Tryz.pinned (OpenSpec.ofChange fnExactNewWorldWrong)

/-- 'laws.FnExactPlainWorld': WHATEVER THE INPUT: true; the input reads as it did. -/
def fnExactPlainWorldSpec : ChangeSpec := { name := "fnExactPlainWorld", fn := fun _ => fun
  | [] => { results := [.lit (.bool true)], args := [] }
  | _ => none }
def fnExactPlainWorldRow : OpenClaim := { program := "ytcikhcfofnlegaagreat", sum := "906e0c6e31b9137b460e4ff1924e1b7c0c77b6f2ea96c3f3684b2763635ace2f", func := "loop.example/g00548/laws.FnExactPlainWorld", spec := "fnExactPlainWorld", inPlace := ["internal/abi.NoEscape", "internal/bytealg.MakeNoZero"], unfollowed := true, recurses := true, apart := false }
def FnExactPlainWorldSaid : Prop := fnExactPlainWorldRow.holds Tryz.pinned (OpenSpec.ofChange fnExactPlainWorldSpec)

/-- ITS FALSE NEIGHBOUR: 'it returns false'. Refute it at one input. -/
def fnExactPlainWorldWrong : ChangeSpec := { name := "fnExactPlainWorld", fn := fun _ => fun
  | [] => { results := [.lit (.bool false)], args := [] }
  | _ => none }
def FnExactPlainWorldWrongFalsely : Prop := fnExactPlainWorldRow.holds Tryz.pinned (OpenSpec.ofChange fnExactPlainWorldWrong)

/-- 'laws.FnExactSubmit': WHATEVER THE INPUT: true; the input reads as it did. -/
def fnExactSubmitSpec : ChangeSpec := { name := "fnExactSubmit", fn := fun _ => fun
  | [d1, d2, d3] => { results := [.lit (.bool true)], args := [d1, d2, d3] }
  | _ => none }
def fnExactSubmitRow : OpenClaim := { program := "ytcikhcfofnlegaagreat", sum := "906e0c6e31b9137b460e4ff1924e1b7c0c77b6f2ea96c3f3684b2763635ace2f", func := "loop.example/g00548/laws.FnExactSubmit", spec := "fnExactSubmit", inPlace := ["internal/abi.NoEscape", "internal/bytealg.MakeNoZero"], unfollowed := true, recurses := true, apart := false }
def FnExactSubmitSaid : Prop := fnExactSubmitRow.holds Tryz.pinned (OpenSpec.ofChange fnExactSubmitSpec)

/-- ITS FALSE NEIGHBOUR: 'it returns false'. Refute it at one input. -/
def fnExactSubmitWrong : ChangeSpec := { name := "fnExactSubmit", fn := fun _ => fun
  | [d1, d2, d3] => { results := [.lit (.bool false)], args := [d1, d2, d3] }
  | _ => none }
def FnExactSubmitWrongFalsely : Prop := fnExactSubmitRow.holds Tryz.pinned (OpenSpec.ofChange fnExactSubmitWrong)

/-- 'laws.FnExactSubmitTorn': WHATEVER THE INPUT: true; the input reads as it did. -/
def fnExactSubmitTornSpec : ChangeSpec := { name := "fnExactSubmitTorn", fn := fun _ => fun
  | [d1, d2, d3, d4, d5] => { results := [.lit (.bool true)], args := [d1, d2, d3, d4, d5] }
  | _ => none }
def fnExactSubmitTornRow : OpenClaim := { program := "ytcikhcfofnlegaagreat", sum := "906e0c6e31b9137b460e4ff1924e1b7c0c77b6f2ea96c3f3684b2763635ace2f", func := "loop.example/g00548/laws.FnExactSubmitTorn", spec := "fnExactSubmitTorn", inPlace := ["internal/abi.NoEscape", "internal/bytealg.MakeNoZero"], unfollowed := true, recurses := true, apart := false }
def FnExactSubmitTornSaid : Prop := fnExactSubmitTornRow.holds Tryz.pinned (OpenSpec.ofChange fnExactSubmitTornSpec)

/-- ITS FALSE NEIGHBOUR: 'it returns false'. Refute it at one input. -/
def fnExactSubmitTornWrong : ChangeSpec := { name := "fnExactSubmitTorn", fn := fun _ => fun
  | [d1, d2, d3, d4, d5] => { results := [.lit (.bool false)], args := [d1, d2, d3, d4, d5] }
  | _ => none }
def FnExactSubmitTornWrongFalsely : Prop := fnExactSubmitTornRow.holds Tryz.pinned (OpenSpec.ofChange fnExactSubmitTornWrong)

/-- 'laws.FnExactRecover': WHATEVER THE INPUT: true; the input reads as it did. -/
def fnExactRecoverSpec : ChangeSpec := { name := "fnExactRecover", fn := fun _ => fun
  | [d] => { results := [.lit (.bool true)], args := [d] }
  | _ => none }
def fnExactRecoverRow : OpenClaim := { program := "ytcikhcfofnlegaagreat", sum := "906e0c6e31b9137b460e4ff1924e1b7c0c77b6f2ea96c3f3684b2763635ace2f", func := "loop.example/g00548/laws.FnExactRecover", spec := "fnExactRecover", inPlace := ["internal/abi.NoEscape", "internal/bytealg.MakeNoZero"], unfollowed := true, recurses := true, apart := false }
def FnExactRecoverSaid : Prop := fnExactRecoverRow.holds Tryz.pinned (OpenSpec.ofChange fnExactRecoverSpec)

/-- ITS FALSE NEIGHBOUR: 'it returns false'. Refute it at one input. -/
def fnExactRecoverWrong : ChangeSpec := { name := "fnExactRecover", fn := fun _ => fun
  | [d] => { results := [.lit (.bool false)], args := [d] }
  | _ => none }
def FnExactRecoverWrongFalsely : Prop := fnExactRecoverRow.holds Tryz.pinned (OpenSpec.ofChange fnExactRecoverWrong)

/-- 'laws.FnExactLastResults': WHATEVER THE INPUT: true; the input reads as it did. -/
def fnExactLastResultsSpec : ChangeSpec := { name := "fnExactLastResults", fn := fun _ => fun
  | [d] => { results := [.lit (.bool true)], args := [d] }
  | _ => none }
def fnExactLastResultsRow : OpenClaim := { program := "ytcikhcfofnlegaagreat", sum := "906e0c6e31b9137b460e4ff1924e1b7c0c77b6f2ea96c3f3684b2763635ace2f", func := "loop.example/g00548/laws.FnExactLastResults", spec := "fnExactLastResults", inPlace := ["internal/abi.NoEscape", "internal/bytealg.MakeNoZero"], unfollowed := true, recurses := true, apart := false }
def FnExactLastResultsSaid : Prop := fnExactLastResultsRow.holds Tryz.pinned (OpenSpec.ofChange fnExactLastResultsSpec)

/-- ITS FALSE NEIGHBOUR: 'it returns false'. Refute it at one input. -/
def fnExactLastResultsWrong : ChangeSpec := { name := "fnExactLastResults", fn := fun _ => fun
  | [d] => { results := [.lit (.bool false)], args := [d] }
  | _ => none }
def FnExactLastResultsWrongFalsely : Prop := fnExactLastResultsRow.holds Tryz.pinned (OpenSpec.ofChange fnExactLastResultsWrong)

/-- 'laws.FnExactHolds': WHATEVER THE INPUT: true; the input reads as it did. -/
def fnExactHoldsSpec : ChangeSpec := { name := "fnExactHolds", fn := fun _ => fun
  | [d] => { results := [.lit (.bool true)], args := [d] }
  | _ => none }
def fnExactHoldsRow : OpenClaim := { program := "ytcikhcfofnlegaagreat", sum := "906e0c6e31b9137b460e4ff1924e1b7c0c77b6f2ea96c3f3684b2763635ace2f", func := "loop.example/g00548/laws.FnExactHolds", spec := "fnExactHolds", inPlace := ["internal/abi.NoEscape", "internal/bytealg.MakeNoZero", "slices.overlaps[loop.example/g00548/impl.Entry]"], unfollowed := true, recurses := true, apart := false }
def FnExactHoldsSaid : Prop := fnExactHoldsRow.holds Tryz.pinned (OpenSpec.ofChange fnExactHoldsSpec)

/-- ITS FALSE NEIGHBOUR: 'it returns false'. Refute it at one input. -/
def fnExactHoldsWrong : ChangeSpec := { name := "fnExactHolds", fn := fun _ => fun
  | [d] => { results := [.lit (.bool false)], args := [d] }
  | _ => none }
def FnExactHoldsWrongFalsely : Prop := fnExactHoldsRow.holds Tryz.pinned (OpenSpec.ofChange fnExactHoldsWrong)

/- THE SECOND FORM. 'bulk': how many values and letters a reading holds, each counted each time it is reached (what is shared counts as often as it is met; a slice's spare places count too). A statement '..UptoSaid' is the law's where the arguments, and the package variables that the reading takes, are together of bulk at most 1048576: NARROWER than '..Said'. Prove '..Said' where nothing that the law and all that it calls make is longer than what came in: it says more and counts as full. Else prove '..UptoSaid'. A law counts once. -/
mutual
def uptoBulk {H : Type} : DataW H → Nat
  | .lit (.string bytes) => bytes.length + 1
  | .lit _ => 1
  | .nil => 1
  | .ptr d => uptoBulk d + 1
  | .slice elems spare => uptoBulkAll elems + uptoBulkAll spare + 1
  | .agg parts => uptoBulkAll parts + 1
  | .iface _ d => uptoBulk d + 1
  | .map entries => uptoBulkEntries entries + 1
  | .held _ => 1
def uptoBulkAll {H : Type} : List (DataW H) → Nat
  | [] => 0
  | d :: r => uptoBulk d + uptoBulkAll r
def uptoBulkEntries {H : Type} : List (Lit × DataW H) → Nat
  | [] => 0
  | x :: r => uptoBulkEntry x + uptoBulkEntries r
def uptoBulkEntry {H : Type} : Lit × DataW H → Nat
  | (.string bytes, d) => bytes.length + uptoBulk d + 1
  | (_, d) => uptoBulk d + 1
 end
def uptoSmall : (H : Type) → List (DataW H) → Bool := fun _ ds => decide (uptoBulkAll ds ≤ 1048576)
def OpenSpec.upto (s : _root_.Go.ChangeSpec) : _root_.Go.OpenSpec := { _root_.Go.OpenSpec.ofChange s with cond := some uptoSmall }

/-- 'laws.FnExactNewWorld', WHERE WHAT IT READS IS OF BULK AT MOST 1048576: true; the input reads as it did. -/
def fnExactNewWorldUptoRow : OpenClaim := { program := "ytcikhcfofnlegaagreat", sum := "906e0c6e31b9137b460e4ff1924e1b7c0c77b6f2ea96c3f3684b2763635ace2f", func := "loop.example/g00548/laws.FnExactNewWorld", spec := "fnExactNewWorld", inPlace := ["internal/abi.NoEscape", "internal/bytealg.MakeNoZero"], unfollowed := true, recurses := true, apart := false, narrowed := true }
def FnExactNewWorldUptoSaid : Prop := fnExactNewWorldUptoRow.holds Tryz.pinned (OpenSpec.upto fnExactNewWorldSpec)

/-- 'laws.FnExactPlainWorld', WHERE WHAT IT READS IS OF BULK AT MOST 1048576: true; the input reads as it did. -/
def fnExactPlainWorldUptoRow : OpenClaim := { program := "ytcikhcfofnlegaagreat", sum := "906e0c6e31b9137b460e4ff1924e1b7c0c77b6f2ea96c3f3684b2763635ace2f", func := "loop.example/g00548/laws.FnExactPlainWorld", spec := "fnExactPlainWorld", inPlace := ["internal/abi.NoEscape", "internal/bytealg.MakeNoZero"], unfollowed := true, recurses := true, apart := false, narrowed := true }
def FnExactPlainWorldUptoSaid : Prop := fnExactPlainWorldUptoRow.holds Tryz.pinned (OpenSpec.upto fnExactPlainWorldSpec)

/-- 'laws.FnExactSubmit', WHERE WHAT IT READS IS OF BULK AT MOST 1048576: true; the input reads as it did. -/
def fnExactSubmitUptoRow : OpenClaim := { program := "ytcikhcfofnlegaagreat", sum := "906e0c6e31b9137b460e4ff1924e1b7c0c77b6f2ea96c3f3684b2763635ace2f", func := "loop.example/g00548/laws.FnExactSubmit", spec := "fnExactSubmit", inPlace := ["internal/abi.NoEscape", "internal/bytealg.MakeNoZero"], unfollowed := true, recurses := true, apart := false, narrowed := true }
def FnExactSubmitUptoSaid : Prop := fnExactSubmitUptoRow.holds Tryz.pinned (OpenSpec.upto fnExactSubmitSpec)

/-- 'laws.FnExactSubmitTorn', WHERE WHAT IT READS IS OF BULK AT MOST 1048576: true; the input reads as it did. -/
def fnExactSubmitTornUptoRow : OpenClaim := { program := "ytcikhcfofnlegaagreat", sum := "906e0c6e31b9137b460e4ff1924e1b7c0c77b6f2ea96c3f3684b2763635ace2f", func := "loop.example/g00548/laws.FnExactSubmitTorn", spec := "fnExactSubmitTorn", inPlace := ["internal/abi.NoEscape", "internal/bytealg.MakeNoZero"], unfollowed := true, recurses := true, apart := false, narrowed := true }
def FnExactSubmitTornUptoSaid : Prop := fnExactSubmitTornUptoRow.holds Tryz.pinned (OpenSpec.upto fnExactSubmitTornSpec)

/-- 'laws.FnExactRecover', WHERE WHAT IT READS IS OF BULK AT MOST 1048576: true; the input reads as it did. -/
def fnExactRecoverUptoRow : OpenClaim := { program := "ytcikhcfofnlegaagreat", sum := "906e0c6e31b9137b460e4ff1924e1b7c0c77b6f2ea96c3f3684b2763635ace2f", func := "loop.example/g00548/laws.FnExactRecover", spec := "fnExactRecover", inPlace := ["internal/abi.NoEscape", "internal/bytealg.MakeNoZero"], unfollowed := true, recurses := true, apart := false, narrowed := true }
def FnExactRecoverUptoSaid : Prop := fnExactRecoverUptoRow.holds Tryz.pinned (OpenSpec.upto fnExactRecoverSpec)

/-- 'laws.FnExactLastResults', WHERE WHAT IT READS IS OF BULK AT MOST 1048576: true; the input reads as it did. -/
def fnExactLastResultsUptoRow : OpenClaim := { program := "ytcikhcfofnlegaagreat", sum := "906e0c6e31b9137b460e4ff1924e1b7c0c77b6f2ea96c3f3684b2763635ace2f", func := "loop.example/g00548/laws.FnExactLastResults", spec := "fnExactLastResults", inPlace := ["internal/abi.NoEscape", "internal/bytealg.MakeNoZero"], unfollowed := true, recurses := true, apart := false, narrowed := true }
def FnExactLastResultsUptoSaid : Prop := fnExactLastResultsUptoRow.holds Tryz.pinned (OpenSpec.upto fnExactLastResultsSpec)

/-- 'laws.FnExactHolds', WHERE WHAT IT READS IS OF BULK AT MOST 1048576: true; the input reads as it did. -/
def fnExactHoldsUptoRow : OpenClaim := { program := "ytcikhcfofnlegaagreat", sum := "906e0c6e31b9137b460e4ff1924e1b7c0c77b6f2ea96c3f3684b2763635ace2f", func := "loop.example/g00548/laws.FnExactHolds", spec := "fnExactHolds", inPlace := ["internal/abi.NoEscape", "internal/bytealg.MakeNoZero", "slices.overlaps[loop.example/g00548/impl.Entry]"], unfollowed := true, recurses := true, apart := false, narrowed := true }
def FnExactHoldsUptoSaid : Prop := fnExactHoldsUptoRow.holds Tryz.pinned (OpenSpec.upto fnExactHoldsSpec)

end Rows
end Go.Proofs.YtcikhcfofnlegaaGreat
