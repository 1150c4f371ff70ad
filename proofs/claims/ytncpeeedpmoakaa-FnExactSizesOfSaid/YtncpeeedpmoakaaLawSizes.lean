/- FnExactSizesOf returns true at all data. -/
import Derived.Test.YtncpeeedpmoakaaRows
import Derived.Test.YtncpeeedpmoakaaPlainSizes
set_option linter.unusedVariables false
set_option linter.unusedSimpArgs false
namespace Go.Proofs.Ytncpeeedpmoakaa.fnExactSizesOf
open Go.ChangeShapes Go.WideShapes Go.ChangeAt Go.RowKit Go.Rf Go.Rf.S
set_option maxRecDepth 100000
theorem own : ownKnob Try.prog.godebug = none := by kernel_rfl
theorem mixed : EE.P.follows .mixedOrders = true := by kernel_rfl
theorem names : NamesOK EE.P := namesOK_of (by kernel_rfl)
theorem runOK : RunOK EE Go.Rf.S.R := run_ok X (fun _ _ h => by cases h) mixed names
theorem lifted (os : Os) (started : os.Started) (H : Type) (enc : TypeId × Value → H) :
    ReturnsInHanded {} Try.checked os 3 .any (Rows.fnExactSizesOfSpec.pre6 enc Try.prog Try.f3 Rows.fnExactSizesOfRow.domain false) (Rows.fnExactSizesOfSpec.post enc Try.prog Try.f3 false true false false) := by
  refine returnsInHanded_of_change_sized (C := Try.checked) own started (by kernel_rfl) Try.func3
    (ChangeSpec.witness6 (enc := enc) (C := Try.checked) false ⟨#[], #[.agg #[.slice none 0 0, .slice none 0 0]], []⟩ 8 (by kernel_rfl) (by kernel_rfl) (by kernel_rfl) (by kernel_rfl)) ?_
  intro W base args ds gs before hval hW hcnd hsz hh
  refine law_row (C := Try.checked) (cfg := lookC cfgs) (R := Go.Rf.S.R) runOK (tys := [DevT]) (keep := (lookC cfgs 3).keep) (mv := (lookC cfgs 3).mv) (tb := 4) (n := 1) (by kernel_rfl) Try.func3 (by kernel_rfl) (by kernel_rfl) (by kernel_rfl) rfl
    (fun H ds h => ?_) (by kernel_rfl) (by kernel_rfl) (by kernel_rfl) (by kernel_rfl) ?_ ?_ enc W base args ds gs before hval hW
  · match ds, h with
    | [d], _ => rfl
  · intro t ht
    have : t = 25 := by
      have e : Try.f3.params.toList = [25] := by kernel_rfl
      rw [e] at ht; simpa using ht
    subst this
    exact ⟨by kernel_rfl, of_decide_eq_true (by kernel_rfl)⟩
  · intro dy hdy hf
    match dy, hdy with
    | [⟨t, x⟩], hdy =>
      have ht : t = DevT := by simpa using hdy
      subst ht
      exact ⟨(true, ()), Go.Rf.S.law x hf.1, rfl⟩
theorem over : Rows.fnExactSizesOfRow.holds Try.pinned (OpenSpec.ofChange Rows.fnExactSizesOfSpec) :=
  OpenClaim.holds_of_wide 3 Try.f3 rfl rfl rfl rfl rfl rfl rfl ⟨rfl, rfl, rfl, rfl, rfl⟩ rfl rfl rfl rfl rfl (by kernel_rfl) Try.func3 (by kernel_rfl)
    (of_decide_eq_true (by kernel_rfl)) (by unfold Func.isWrapper; first | (rw [if_pos (by decide +kernel)]; kernel_rfl) | (rw [if_neg (by decide +kernel)]; exact ⟨rfl, rfl⟩))
    (fun os started H enc _ => lifted os started H enc)
theorem proved : Rows.FnExactSizesOfSaid := over
#print axioms proved
end Go.Proofs.Ytncpeeedpmoakaa.fnExactSizesOf
namespace Go.Proofs.Ytncpeeedpmoakaa
/-- The row, under a short name, for the claim. -/
theorem fnExactSizesOf_holds : Rows.FnExactSizesOfSaid := fnExactSizesOf.proved
end Go.Proofs.Ytncpeeedpmoakaa
