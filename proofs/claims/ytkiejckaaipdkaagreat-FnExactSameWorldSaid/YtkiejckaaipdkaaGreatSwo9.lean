/- FnExactSameWorld returns true at all data. No condition. -/
import Derived.Test.YtkiejckaaipdkaaGreatRows
import Derived.Test.YtkiejckaaipdkaaGreatSwo8
set_option linter.unusedVariables false
set_option linter.unusedSimpArgs false
namespace Go.Proofs.YtkiejckaaipdkaaGreat.fnExactSameWorld
open Go.ChangeShapes Go.WideShapes Go.ChangeAt Go.RowKit Go.Rf Go.Rf.S
set_option maxRecDepth 100000
theorem own : ownKnob Tryz.prog.godebug = none := by kernel_rfl
theorem mixed : EE.P.follows .mixedOrders = true := by kernel_rfl
theorem names : NamesOK EE.P := namesOK_of (by kernel_rfl)
theorem runOK : RunOK EE Go.Rf.S.R := run_ok X (fun _ _ h => by cases h) mixed names
theorem lifted (os : Os) (started : os.Started) (H : Type) (enc : TypeId × Value → H) :
    ReturnsInHanded {} Tryz.checked os 3 .any (Rows.fnExactSameWorldSpec.pre6 enc Tryz.prog Tryz.f3 Rows.fnExactSameWorldRow.domain false) (Rows.fnExactSameWorldSpec.post enc Tryz.prog Tryz.f3 false true false false) := by
  refine returnsInHanded_of_change_sized (C := Tryz.checked) own started (by kernel_rfl) Tryz.func3
    (ChangeSpec.witness6 (enc := enc) (C := Tryz.checked) false ⟨#[], #[.agg #[.string ⟨#[]⟩, .int .i64 0, .int .i64 0, .int .i64 0, .int .i64 0, .string ⟨#[]⟩, .string ⟨#[]⟩, .string ⟨#[]⟩, .slice none 0 0, .slice none 0 0, .bool false, .bool false, .slice none 0 0, .slice none 0 0, .slice none 0 0, .slice none 0 0, .slice none 0 0, .bool false], .agg #[.string ⟨#[]⟩, .int .i64 0, .int .i64 0, .int .i64 0, .int .i64 0, .string ⟨#[]⟩, .string ⟨#[]⟩, .string ⟨#[]⟩, .slice none 0 0, .slice none 0 0, .bool false, .bool false, .slice none 0 0, .slice none 0 0, .slice none 0 0, .slice none 0 0, .slice none 0 0, .bool false]], []⟩ 8 (by kernel_rfl) (by kernel_rfl) (by kernel_rfl) (by kernel_rfl)) ?_
  intro W base args ds gs before hval hW hcnd hsz hh
  refine law_row (C := Tryz.checked) (cfg := lookC cfgs) (R := Go.Rf.S.R) runOK (tys := [((.pair (.pair .str (.pair (.pair (.int .i64) (.pair (.int .i64) (.pair (.int .i64) (.pair (.int .i64) (.pair .str (.pair .str (.pair .str .unit))))))) (.pair (.pair (.sl .str) (.pair (.sl (.pair (.int .i64) (.pair .str .unit))) .unit)) (.pair .bool (.pair .bool .unit))))) (.pair (.pair (.sl .str) (.pair (.sl (.pair (.int .i64) (.pair .str .unit))) .unit)) (.pair (.sl (.pair (.int .i64) (.pair (.int .i64) .unit))) (.pair (.sl (.sl (.pair (.sl (.pair (.int .i64) (.pair (.int .i64) (.pair (.int .i64) .unit)))) .unit))) (.pair (.sl (.pair (.int .i64) (.pair (.sl (.int .i64)) .unit))) (.pair .bool .unit)))))) : Ty), ((.pair (.pair .str (.pair (.pair (.int .i64) (.pair (.int .i64) (.pair (.int .i64) (.pair (.int .i64) (.pair .str (.pair .str (.pair .str .unit))))))) (.pair (.pair (.sl .str) (.pair (.sl (.pair (.int .i64) (.pair .str .unit))) .unit)) (.pair .bool (.pair .bool .unit))))) (.pair (.pair (.sl .str) (.pair (.sl (.pair (.int .i64) (.pair .str .unit))) .unit)) (.pair (.sl (.pair (.int .i64) (.pair (.int .i64) .unit))) (.pair (.sl (.sl (.pair (.sl (.pair (.int .i64) (.pair (.int .i64) (.pair (.int .i64) .unit)))) .unit))) (.pair (.sl (.pair (.int .i64) (.pair (.sl (.int .i64)) .unit))) (.pair .bool .unit)))))) : Ty)]) (keep := (lookC cfgs 3).keep) (mv := (lookC cfgs 3).mv) (tb := 4) (n := 2) (by kernel_rfl) Tryz.func3 (by kernel_rfl) (by kernel_rfl) (by kernel_rfl) rfl
    (fun H ds h => ?_) (by kernel_rfl) (by kernel_rfl) (by kernel_rfl) (by kernel_rfl) ?_ ?_ enc W base args ds gs before hval hW
  · match ds, h with
    | [d0, d1], _ => rfl
  · intro t ht
    have e : Tryz.f3.params.toList = [34, 34] := by kernel_rfl
    rw [e] at ht
    have : t = 34 := by simpa using ht
    rcases this with rfl
    · exact ⟨by kernel_rfl, of_decide_eq_true (by kernel_rfl)⟩
  · intro dy hdy hf
    match dy, hdy with
    | [⟨t0, x0⟩, ⟨t1, x1⟩], hdy =>
      simp only [List.map_cons, List.map_nil, List.cons.injEq, and_true] at hdy
      obtain ⟨rfl, rfl⟩ := hdy
      exact ⟨(true, ()), Go.Rf.S.law_SameWorld x0 x1 hf.1 hf.2.1, rfl⟩
theorem over : Rows.fnExactSameWorldRow.holds Tryz.pinned (OpenSpec.ofChange Rows.fnExactSameWorldSpec) :=
  OpenClaim.holds_of_wide 3 Tryz.f3 rfl rfl rfl rfl rfl rfl rfl ⟨rfl, rfl, rfl, rfl, rfl⟩ rfl rfl rfl rfl rfl (by kernel_rfl) Tryz.func3 (by kernel_rfl)
    (of_decide_eq_true (by kernel_rfl)) (by unfold Func.isWrapper; first | (rw [if_pos (by decide +kernel)]; kernel_rfl) | (rw [if_neg (by decide +kernel)]; exact ⟨rfl, rfl⟩))
    (fun os started H enc _ => lifted os started H enc)
theorem proved : Rows.FnExactSameWorldSaid := over
end Go.Proofs.YtkiejckaaipdkaaGreat.fnExactSameWorld
namespace Go.Proofs.YtkiejckaaipdkaaGreat
/-- The row, under a short name, for the claim. -/
theorem fnExactSameWorld_holds : Rows.FnExactSameWorldSaid := fnExactSameWorld.proved
end Go.Proofs.YtkiejckaaipdkaaGreat
