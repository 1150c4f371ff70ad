import Derived.Test.YtkiejckaaipdkaaGreatDoorWli10
import Derived.Test.YtkiejckaaipdkaaGreatDoorWli11
set_option linter.unusedVariables false
set_option linter.unusedSimpArgs false
namespace Go.Rf.S
open Go.Proofs
set_option maxRecDepth 100000
set_option linter.unusedVariables false
set_option linter.unusedSimpArgs false

/-- The library's functions do what they are taken to do. -/
theorem X_ok : ∀ f h, X f = some h → ∀ ds x, h ds = some x → FnOK EE f ds x := by
  intro f h hX ds x hx
  unfold X at hX
  split at hX
  · cases hX
    obtain ⟨n, rfl, hn, rfl⟩ := itoaH_some hx
    exact itoa_fn (E := EE) (g := 0) Tryz.laysItoa rfl Tryz.func79 (by kernel_rfl) (by kernel_rfl) (by kernel_rfl) (List.mem_singleton.2 rfl) n hn.1 hn.2
  · cases hX
    obtain ⟨xs, sep, rfl, h1, h2, rfl⟩ := joinH_some hx
    exact join_fn (E := EE) Tryz.laysJoin Tryz.extra rfl Tryz.func128 (by kernel_rfl) (by kernel_rfl) xs sep h1 h2
  · cases hX
end Go.Rf.S
