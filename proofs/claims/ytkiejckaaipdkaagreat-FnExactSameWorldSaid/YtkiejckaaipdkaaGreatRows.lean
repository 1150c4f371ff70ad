/-
  No cell of these rows narrows 'for every input' (looked for: loops, veiled, ifaces, maps, wideKeys, modest, calm, conditions, laid).
  DERIVED. THE GIVEN ROWS OF THIS SEAT. 4 by the template 'for every input the law returns true; each argument reads behind the call as it read before'; 0 by the template 'total and deterministic' (their statements: YtkiejckaaipdkaaGreatTotals.lean).
  GIVEN WITH THE SEED: the statements are not yours to turn. If you find one false, say at which input.
  Laid BY PROGRAM, IN A SANDBOX (cutbox-rows.mjs): the forced cells as the released guide's own fill.sh prints them over the translation 63867b93b5323f1b… (all of the seat's roots in one cut). By AI agents, Wed Nov 11 2026. No macro, syntax, notation, axiom, sorry.
-/
import Derived.Test.YtkiejckaaipdkaaGreatChecked
import GoSem.Claim
import GoSem.ClaimJoined
import GoSem.ClaimMapViews
import Derived.JoinedTies
import Derived.KernelRfl
namespace Go.Proofs.YtkiejckaaipdkaaGreat
/- THE CELL 'sum', in the pinned program and in every row, IS THE sha256 OF THE DUMP (.gsa) THAT YtkiejckaaipdkaaGreatProg.lean LOADS. Nothing in Lean hashes anything: it is a label: what it is worth is what the hold of that sum in a sandbox is worth. -/
noncomputable def Tryz.pinned : Pinned := { name := "ytkiejckaaipdkaagreat", sum := "63867b93b5323f1b816b4ddcb782f4c9b7f6b3ec5512ddd6bc0a2a84dbec3628", checked := Tryz.checked }
namespace Rows
def none {H : Type} : Left H := { results := [], args := [] }

/-- 'laws.FnExactSameWorld': WHATEVER THE INPUT: true; the input reads as it did. -/
def fnExactSameWorldSpec : ChangeSpec := { name := "fnExactSameWorld", fn := fun _ => fun
  | [d1, d2] => { results := [.lit (.bool true)], args := [d1, d2] }
  | _ => none }
def fnExactSameWorldRow : OpenClaim := { program := "ytkiejckaaipdkaagreat", sum := "63867b93b5323f1b816b4ddcb782f4c9b7f6b3ec5512ddd6bc0a2a84dbec3628", func := "loop.example/g00548/laws.FnExactSameWorld", spec := "fnExactSameWorld", unfollowed := true, recurses := true, apart := false }
def FnExactSameWorldSaid : Prop := fnExactSameWorldRow.holds Tryz.pinned (OpenSpec.ofChange fnExactSameWorldSpec)

/-- ITS FALSE NEIGHBOUR: 'it returns false'. Refute it at one input. -/
def fnExactSameWorldWrong : ChangeSpec := { name := "fnExactSameWorld", fn := fun _ => fun
  | [d1, d2] => { results := [.lit (.bool false)], args := [d1, d2] }
  | _ => none }
def FnExactSameWorldWrongFalsely : Prop := fnExactSameWorldRow.holds Tryz.pinned (OpenSpec.ofChange fnExactSameWorldWrong)

/-- 'laws.FnExactEncTxn': WHATEVER THE INPUT: true; the input reads as it did. -/
def fnExactEncTxnSpec : ChangeSpec := { name := "fnExactEncTxn", fn := fun _ => fun
  | [d1, d2, d3] => { results := [.lit (.bool true)], args := [d1, d2, d3] }
  | _ => none }
def fnExactEncTxnRow : OpenClaim := { program := "ytkiejckaaipdkaagreat", sum := "63867b93b5323f1b816b4ddcb782f4c9b7f6b3ec5512ddd6bc0a2a84dbec3628", func := "loop.example/g00548/laws.FnExactEncTxn", spec := "fnExactEncTxn", unfollowed := true, recurses := true, apart := false }
def FnExactEncTxnSaid : Prop := fnExactEncTxnRow.holds Tryz.pinned (OpenSpec.ofChange fnExactEncTxnSpec)

/-- ITS FALSE NEIGHBOUR: 'it returns false'. Refute it at one input. -/
def fnExactEncTxnWrong : ChangeSpec := { name := "fnExactEncTxn", fn := fun _ => fun
  | [d1, d2, d3] => { results := [.lit (.bool false)], args := [d1, d2, d3] }
  | _ => none }
def FnExactEncTxnWrongFalsely : Prop := fnExactEncTxnRow.holds Tryz.pinned (OpenSpec.ofChange fnExactEncTxnWrong)

/-- 'laws.FnExactEncBatch': WHATEVER THE INPUT: true; the input reads as it did. -/
def fnExactEncBatchSpec : ChangeSpec := { name := "fnExactEncBatch", fn := fun _ => fun
  | [d1, d2, d3] => { results := [.lit (.bool true)], args := [d1, d2, d3] }
  | _ => none }
def fnExactEncBatchRow : OpenClaim := { program := "ytkiejckaaipdkaagreat", sum := "63867b93b5323f1b816b4ddcb782f4c9b7f6b3ec5512ddd6bc0a2a84dbec3628", func := "loop.example/g00548/laws.FnExactEncBatch", spec := "fnExactEncBatch", unfollowed := true, recurses := true, apart := false }
def FnExactEncBatchSaid : Prop := fnExactEncBatchRow.holds Tryz.pinned (OpenSpec.ofChange fnExactEncBatchSpec)

/-- ITS FALSE NEIGHBOUR: 'it returns false'. Refute it at one input. -/
def fnExactEncBatchWrong : ChangeSpec := { name := "fnExactEncBatch", fn := fun _ => fun
  | [d1, d2, d3] => { results := [.lit (.bool false)], args := [d1, d2, d3] }
  | _ => none }
def FnExactEncBatchWrongFalsely : Prop := fnExactEncBatchRow.holds Tryz.pinned (OpenSpec.ofChange fnExactEncBatchWrong)

/-- 'laws.FnCodec': WHATEVER THE INPUT: true; the input reads as it did. -/
def fnCodecSpec : ChangeSpec := { name := "fnCodec", fn := fun _ => fun
  | [d1, d2] => { results := [.lit (.bool true)], args := [d1, d2] }
  | _ => none }
def fnCodecRow : OpenClaim := { program := "ytkiejckaaipdkaagreat", sum := "63867b93b5323f1b816b4ddcb782f4c9b7f6b3ec5512ddd6bc0a2a84dbec3628", func := "loop.example/g00548/laws.FnCodec", spec := "fnCodec", inPlace := ["internal/abi.NoEscape"], unfollowed := true, recurses := true, apart := false }
def FnCodecSaid : Prop := fnCodecRow.holds Tryz.pinned (OpenSpec.ofChange fnCodecSpec)

/-- ITS FALSE NEIGHBOUR: 'it returns false'. Refute it at one input. -/
def fnCodecWrong : ChangeSpec := { name := "fnCodec", fn := fun _ => fun
  | [d1, d2] => { results := [.lit (.bool false)], args := [d1, d2] }
  | _ => none }
def FnCodecWrongFalsely : Prop := fnCodecRow.holds Tryz.pinned (OpenSpec.ofChange fnCodecWrong)

/- THE SECOND FORM. 'bulk': how many values and letters a reading holds, each counted each time it is reached (what is shared counts as often as it is met; a slice's spare places count too). A statement '..UptoSaid' is the law's where the arguments, and the package variables that the reading takes, are together of bulk at most 1048576: NARROWER than '..Said'. Prove '..Said' where nothing that the law and all that it calls make is longer than what came in: it says more and counts as full. Else prove '..UptoSaid'. A law counts once. -/
mutual
def uptoBulk {H : Type} : DataW H → Nat
  | .lit (.string bytes) => bytes.length + 1
  | .lit _ => 1
  | .nil => 1
  | .ptr d => uptoBulk d + 1
  | .slice elems spare => uptoBulkAll elems + uptoBulkAll spare + 1
  | .agg parts => uptoBulkAll parts + 1
  | .iface _ d => uptoBulk d + 1
  | .map entries => uptoBulkEntries entries + 1
  | .held _ => 1
def uptoBulkAll {H : Type} : List (DataW H) → Nat
  | [] => 0
  | d :: r => uptoBulk d + uptoBulkAll r
def uptoBulkEntries {H : Type} : List (Lit × DataW H) → Nat
  | [] => 0
  | x :: r => uptoBulkEntry x + uptoBulkEntries r
def uptoBulkEntry {H : Type} : Lit × DataW H → Nat
  | (.string bytes, d) => bytes.length + uptoBulk d + 1
  | (_, d) => uptoBulk d + 1
 end
def uptoSmall : (H : Type) → List (DataW H) → Bool := fun _ ds => decide (uptoBulkAll ds ≤ 1048576)
def OpenSpec.upto (s : _root_.Go.ChangeSpec) : _root_.Go.OpenSpec := { _root_.Go.OpenSpec.ofChange s with cond := some uptoSmall }

/-- 'laws.FnExactSameWorld', WHERE WHAT IT READS IS OF BULK AT MOST 1048576: true; the input reads as it did. -/
def fnExactSameWorldUptoRow : OpenClaim := { program := "ytkiejckaaipdkaagreat", sum := "63867b93b5323f1b816b4ddcb782f4c9b7f6b3ec5512ddd6bc0a2a84dbec3628", func := "loop.example/g00548/laws.FnExactSameWorld", spec := "fnExactSameWorld", unfollowed := true, recurses := true, apart := false, narrowed := true }
def FnExactSameWorldUptoSaid : Prop := fnExactSameWorldUptoRow.holds Tryz.pinned (OpenSpec.upto fnExactSameWorldSpec)

/-- 'laws.FnExactEncTxn', WHERE WHAT IT READS IS OF BULK AT MOST 1048576: true; the input reads as it did. -/
def fnExactEncTxnUptoRow : OpenClaim := { program := "ytkiejckaaipdkaagreat", sum := "63867b93b5323f1b816b4ddcb782f4c9b7f6b3ec5512ddd6bc0a2a84dbec3628", func := "loop.example/g00548/laws.FnExactEncTxn", spec := "fnExactEncTxn", unfollowed := true, recurses := true, apart := false, narrowed := true }
def FnExactEncTxnUptoSaid : Prop := fnExactEncTxnUptoRow.holds Tryz.pinned (OpenSpec.upto fnExactEncTxnSpec)

/-- 'laws.FnExactEncBatch', WHERE WHAT IT READS IS OF BULK AT MOST 1048576: true; the input reads as it did. -/
def fnExactEncBatchUptoRow : OpenClaim := { program := "ytkiejckaaipdkaagreat", sum := "63867b93b5323f1b816b4ddcb782f4c9b7f6b3ec5512ddd6bc0a2a84dbec3628", func := "loop.example/g00548/laws.FnExactEncBatch", spec := "fnExactEncBatch", unfollowed := true, recurses := true, apart := false, narrowed := true }
def FnExactEncBatchUptoSaid : Prop := fnExactEncBatchUptoRow.holds Tryz.pinned (OpenSpec.upto fnExactEncBatchSpec)

/-- 'laws.FnCodec', WHERE WHAT IT READS IS OF BULK AT MOST 1048576: true; the input reads as it did. -/
def fnCodecUptoRow : OpenClaim := { program := "ytkiejckaaipdkaagreat", sum := "63867b93b5323f1b816b4ddcb782f4c9b7f6b3ec5512ddd6bc0a2a84dbec3628", func := "loop.example/g00548/laws.FnCodec", spec := "fnCodec", inPlace := ["internal/abi.NoEscape"], unfollowed := true, recurses := true, apart := false, narrowed := true }
def FnCodecUptoSaid : Prop := fnCodecUptoRow.holds Tryz.pinned (OpenSpec.upto fnCodecSpec)

end Rows
end Go.Proofs.YtkiejckaaipdkaaGreat
