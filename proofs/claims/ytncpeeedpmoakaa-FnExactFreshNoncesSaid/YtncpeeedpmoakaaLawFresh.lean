/- FnExactFreshNonces returns true at all data. No condition. -/
import Derived.Test.YtncpeeedpmoakaaRows
import Derived.Test.YtncpeeedpmoakaaPlainFresh
set_option linter.unusedVariables false
set_option linter.unusedSimpArgs false
namespace Go.Proofs.Ytncpeeedpmoakaa.fnExactFreshNonces
open Go.ChangeShapes Go.WideShapes Go.ChangeAt Go.RowKit Go.Rf Go.Rf.S
set_option maxRecDepth 100000
theorem own : ownKnob Try.prog.godebug = none := by kernel_rfl
theorem mixed : EE.P.follows .mixedOrders = true := by kernel_rfl
theorem names : NamesOK EE.P := namesOK_of (by kernel_rfl)
theorem runOK : RunOK EE Go.Rf.S.R := run_ok X (fun _ _ h => by cases h) mixed names
theorem lifted (os : Os) (started : os.Started) (H : Type) (enc : TypeId × Value → H) :
    ReturnsInHanded {} Try.checked os 4 .any (Rows.fnExactFreshNoncesSpec.pre6 enc Try.prog Try.f4 Rows.fnExactFreshNoncesRow.domain false) (Rows.fnExactFreshNoncesSpec.post enc Try.prog Try.f4 false true false false) := by
  refine returnsInHanded_of_change_sized (C := Try.checked) own started (by kernel_rfl) Try.func4
    (ChangeSpec.witness6 (enc := enc) (C := Try.checked) false ⟨#[], #[.agg #[.string ⟨#[]⟩, .int .i64 0, .int .i64 0, .int .i64 0, .int .i64 0, .string ⟨#[]⟩, .string ⟨#[]⟩, .string ⟨#[]⟩, .slice none 0 0, .slice none 0 0, .bool false, .bool false]], []⟩ 8 (by kernel_rfl) (by kernel_rfl) (by kernel_rfl) (by kernel_rfl)) ?_
  intro W base args ds gs before hval hW hcnd hsz hh
  refine law_row (C := Try.checked) (cfg := lookC cfgs) (R := Go.Rf.S.R) runOK (tys := [StoT]) (keep := (lookC cfgs 4).keep) (mv := (lookC cfgs 4).mv) (tb := 4) (n := 1) (by kernel_rfl) Try.func4 (by kernel_rfl) (by kernel_rfl) (by kernel_rfl) rfl
    (fun H ds h => ?_) (by kernel_rfl) (by kernel_rfl) (by kernel_rfl) (by kernel_rfl) ?_ ?_ enc W base args ds gs before hval hW
  · match ds, h with
    | [d0], _ => rfl
  · intro t ht
    have e : Try.f4.params.toList = [42] := by kernel_rfl
    rw [e] at ht
    have : t = 42 := by simpa using ht
    rcases this with rfl
    · exact ⟨by kernel_rfl, of_decide_eq_true (by kernel_rfl)⟩
  · intro dy hdy hf
    match dy, hdy with
    | [⟨t0, x0⟩], hdy =>
      simp only [List.map_cons, List.map_nil, List.cons.injEq, and_true] at hdy
      obtain rfl := hdy
      exact ⟨(true, ()), Go.Rf.S.law4 x0 hf.1, rfl⟩
theorem over : Rows.fnExactFreshNoncesRow.holds Try.pinned (OpenSpec.ofChange Rows.fnExactFreshNoncesSpec) :=
  OpenClaim.holds_of_wide 4 Try.f4 rfl rfl rfl rfl rfl rfl rfl ⟨rfl, rfl, rfl, rfl, rfl⟩ rfl rfl rfl rfl rfl (by kernel_rfl) Try.func4 (by kernel_rfl)
    (of_decide_eq_true (by kernel_rfl)) (by unfold Func.isWrapper; first | (rw [if_pos (by decide +kernel)]; kernel_rfl) | (rw [if_neg (by decide +kernel)]; exact ⟨rfl, rfl⟩))
    (fun os started H enc _ => lifted os started H enc)
theorem proved : Rows.FnExactFreshNoncesSaid := over
end Go.Proofs.Ytncpeeedpmoakaa.fnExactFreshNonces
namespace Go.Proofs.Ytncpeeedpmoakaa
/-- The row, under a short name, for the claim. -/
theorem fnExactFreshNonces_holds : Rows.FnExactFreshNoncesSaid := fnExactFreshNonces.proved
end Go.Proofs.Ytncpeeedpmoakaa
