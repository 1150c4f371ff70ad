/- What the program computes, in plain words: part 9. No condition. -/
import Derived.Test.YtcikhcfofnlegaaGreatRows
import Derived.Test.YtcikhcfofnlegaaGreatNwo4
set_option linter.unusedVariables false
set_option linter.unusedSimpArgs false
section
namespace Go.Proofs.YtcikhcfofnlegaaGreat.fnExactNewWorld
open Go.ChangeShapes Go.WideShapes Go.ChangeAt Go.RowKit Go.Rf Go.Rf.S
set_option maxRecDepth 100000
theorem own : ownKnob Tryz.prog.godebug = none := by kernel_rfl
theorem mixed : EE.P.follows .mixedOrders = true := by kernel_rfl
theorem names : NamesOK EE.P := namesOK_of (by kernel_rfl)
theorem runOK : RunOK EE Go.Rf.S.R := run_ok X X_ok mixed names
theorem lifted (os : Os) (started : os.Started) (H : Type) (enc : TypeId × Value → H) :
  ReturnsInHanded {} Tryz.checked os 3 .any (Rows.fnExactNewWorldSpec.pre6 enc Tryz.prog Tryz.f3 Rows.fnExactNewWorldRow.domain false) (Rows.fnExactNewWorldSpec.post enc Tryz.prog Tryz.f3 false true false false) := by
 refine returnsInHanded_of_change_sized (C := Tryz.checked) own started (by kernel_rfl) Tryz.func3
  (ChangeSpec.witness6 (enc := enc) (C := Tryz.checked) false ⟨#[], #[.string ⟨#[]⟩, .slice none 0 0], []⟩ 8 (by kernel_rfl) (by kernel_rfl) (by kernel_rfl) (by kernel_rfl)) ?_
 intro W base args ds gs before hval hW hcnd hsz hh
 refine law_row (C := Tryz.checked) (cfg := lookC cfgs) (R := Go.Rf.S.R) runOK (tys := [(.str : Ty), ((.sl (.int .i64)) : Ty)]) (keep := (lookC cfgs 3).keep) (mv := (lookC cfgs 3).mv) (tb := 4) (n := 2) (by kernel_rfl) Tryz.func3 (by kernel_rfl) (by kernel_rfl) (by kernel_rfl) rfl
  (fun H ds h => ?_) (by kernel_rfl) (by kernel_rfl) (by kernel_rfl) (by kernel_rfl) ?_ ?_ enc W (fun _ ht => by cases ht) base args ds gs before hval hW
 ·match ds, h with
  | [d0, d1], _ => rfl
 ·intro t ht
  have e : Tryz.f3.params.toList = [9, 22] := by kernel_rfl
  rw [e] at ht
  have : t = 9 ∨ t = 22 := by simpa using ht
  rcases this with rfl | rfl
  ·exact ⟨by kernel_rfl, of_decide_eq_true (by kernel_rfl)⟩
  ·exact ⟨by kernel_rfl, of_decide_eq_true (by kernel_rfl)⟩
 ·intro dy hdy hf
  match dy, hdy with
  | [⟨t0, x0⟩, ⟨t1, x1⟩], hdy =>
   simp only [List.map_cons, List.map_nil, List.cons.injEq, and_true] at hdy
   obtain ⟨rfl, rfl⟩ := hdy
   exact ⟨(true, ()), Go.Rf.S.law_NewWorld x0 x1 hf.1 hf.2.1, rfl⟩
theorem over : Rows.fnExactNewWorldRow.holds Tryz.pinned (OpenSpec.ofChange Rows.fnExactNewWorldSpec) :=
 OpenClaim.holds_of_wide 3 Tryz.f3 rfl rfl rfl rfl rfl rfl rfl ⟨rfl, rfl, rfl, rfl, rfl⟩ rfl rfl rfl rfl rfl (by kernel_rfl) Tryz.func3 (by kernel_rfl)
  (of_decide_eq_true (by kernel_rfl)) (by unfold Func.isWrapper; first | (rw [if_pos (by decide +kernel)]; kernel_rfl) | (rw [if_neg (by decide +kernel)]; exact ⟨rfl, rfl⟩))
  (fun os started H enc _ => lifted os started H enc)
theorem proved : Rows.FnExactNewWorldSaid := over
end Go.Proofs.YtcikhcfofnlegaaGreat.fnExactNewWorld
namespace Go.Proofs.YtcikhcfofnlegaaGreat
theorem fnExactNewWorld_holds : Rows.FnExactNewWorldSaid := fnExactNewWorld.proved
end Go.Proofs.YtcikhcfofnlegaaGreat

end
