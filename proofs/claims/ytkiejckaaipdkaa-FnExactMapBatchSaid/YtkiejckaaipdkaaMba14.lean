/- FnExactMapBatch returns true at all data. No condition. -/
import Derived.Test.YtkiejckaaipdkaaRows
import Derived.Test.YtkiejckaaipdkaaMba13
set_option linter.unusedVariables false
set_option linter.unusedSimpArgs false
namespace Go.Proofs.Ytkiejckaaipdkaa.fnExactMapBatch
open Go.ChangeShapes Go.WideShapes Go.ChangeAt Go.RowKit Go.Rf Go.Rf.S
set_option maxRecDepth 100000
theorem own : ownKnob Try.prog.godebug = none := by kernel_rfl
theorem mixed : EE.P.follows .mixedOrders = true := by kernel_rfl
theorem names : NamesOK EE.P := namesOK_of (by kernel_rfl)
theorem runOK : RunOK EE Go.Rf.S.R := run_ok X X_ok mixed names
theorem lifted (os : Os) (started : os.Started) (H : Type) (enc : TypeId × Value → H) :
    ReturnsInHanded {} Try.checked os 3 .any (Rows.fnExactMapBatchSpec.pre6 enc Try.prog Try.f3 Rows.fnExactMapBatchRow.domain false) (Rows.fnExactMapBatchSpec.post enc Try.prog Try.f3 false true false false) := by
  refine returnsInHanded_of_change_sized (C := Try.checked) own started (by kernel_rfl) Try.func3
    (ChangeSpec.witness6 (enc := enc) (C := Try.checked) false ⟨#[], #[.slice none 0 0, .slice none 0 0], []⟩ 8 (by kernel_rfl) (by kernel_rfl) (by kernel_rfl) (by kernel_rfl)) ?_
  intro W base args ds gs before hval hW hcnd hsz hh
  refine law_row (C := Try.checked) (cfg := lookC cfgs) (R := Go.Rf.S.R) runOK (tys := [((.sl (.pair (.int .i64) (.pair (.int .i64) .unit))) : Ty), ((.sl (.pair (.sl (.pair (.int .i64) (.pair (.int .i64) (.pair (.int .i64) .unit)))) .unit)) : Ty)]) (keep := (lookC cfgs 3).keep) (mv := (lookC cfgs 3).mv) (tb := 4) (n := 2) (by kernel_rfl) Try.func3 (by kernel_rfl) (by kernel_rfl) (by kernel_rfl) rfl
    (fun H ds h => ?_) (by kernel_rfl) (by kernel_rfl) (by kernel_rfl) (by kernel_rfl) ?_ ?_ enc W base args ds gs before hval hW
  · match ds, h with
    | [d0, d1], _ => rfl
  · intro t ht
    have e : Try.f3.params.toList = [22, 23] := by kernel_rfl
    rw [e] at ht
    have : t = 22 ∨ t = 23 := by simpa using ht
    rcases this with rfl | rfl
    · exact ⟨by kernel_rfl, of_decide_eq_true (by kernel_rfl)⟩
    · exact ⟨by kernel_rfl, of_decide_eq_true (by kernel_rfl)⟩
  · intro dy hdy hf
    match dy, hdy with
    | [⟨t0, x0⟩, ⟨t1, x1⟩], hdy =>
      simp only [List.map_cons, List.map_nil, List.cons.injEq, and_true] at hdy
      obtain ⟨rfl, rfl⟩ := hdy
      exact ⟨(true, ()), Go.Rf.S.law_MapBatch x0 x1 hf.1 hf.2.1, rfl⟩
theorem over : Rows.fnExactMapBatchRow.holds Try.pinned (OpenSpec.ofChange Rows.fnExactMapBatchSpec) :=
  OpenClaim.holds_of_wide 3 Try.f3 rfl rfl rfl rfl rfl rfl rfl ⟨rfl, rfl, rfl, rfl, rfl⟩ rfl rfl rfl rfl rfl (by kernel_rfl) Try.func3 (by kernel_rfl)
    (of_decide_eq_true (by kernel_rfl)) (by unfold Func.isWrapper; first | (rw [if_pos (by decide +kernel)]; kernel_rfl) | (rw [if_neg (by decide +kernel)]; exact ⟨rfl, rfl⟩))
    (fun os started H enc _ => lifted os started H enc)
theorem proved : Rows.FnExactMapBatchSaid := over
end Go.Proofs.Ytkiejckaaipdkaa.fnExactMapBatch
namespace Go.Proofs.Ytkiejckaaipdkaa
/-- The row, under a short name, for the claim. -/
theorem fnExactMapBatch_holds : Rows.FnExactMapBatchSaid := fnExactMapBatch.proved
end Go.Proofs.Ytkiejckaaipdkaa
