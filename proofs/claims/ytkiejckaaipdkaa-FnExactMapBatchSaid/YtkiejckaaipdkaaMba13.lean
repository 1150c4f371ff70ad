import Derived.Test.YtkiejckaaipdkaaMba11
import Derived.Test.YtkiejckaaipdkaaMba12
set_option linter.unusedVariables false
set_option linter.unusedSimpArgs false
namespace Go.Rf.S
open Go.Proofs
set_option maxRecDepth 100000
set_option linter.unusedVariables false
set_option linter.unusedSimpArgs false

/-- The library's functions do what they are taken to do. -/
theorem X_ok : ∀ f h, X f = some h → ∀ ds x, h ds = some x → FnOK EE f ds x := by
  intro f h hX ds x hx
  unfold X at hX
  split at hX
  · cases hX
    obtain ⟨xs, i, j, rfl, hij, hj, rfl⟩ := delH_some hx
    exact delete_fn (E := EE) (τ := T_Entry) layD rfl Try.func64 (by kernel_rfl) (by kernel_rfl) (i0 := (Try.prog.info? 49).get!) (by kernel_rfl) Try.zeroValue49 (by kernel_rfl) (by kernel_rfl) (by decide) Try.sizeOf49 rfl xs i j hij hj
  · cases hX
    obtain ⟨xs, vs, i, rfl, hi, hm, hb, rfl⟩ := insH_some hx
    exact insert_fn (E := EE) (τ := T_Entry) layI ovI rfl Try.func71 (by kernel_rfl) (by kernel_rfl) rfl rfl xs vs i hi hm hb
  · cases hX
end Go.Rf.S
