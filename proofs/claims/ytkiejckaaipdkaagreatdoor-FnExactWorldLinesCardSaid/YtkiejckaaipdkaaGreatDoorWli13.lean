/- FnExactWorldLines returns true at all data. No condition. -/
import Derived.Test.YtkiejckaaipdkaaGreatDoorRows
import Derived.Test.YtkiejckaaipdkaaGreatDoorTie
import Derived.Test.YtkiejckaaipdkaaGreatDoorCards
import Derived.SevenTiedAt
import Derived.Lay
import Derived.MakeChecks
import Derived.Lib.LaidTab
import Derived.LaidSub
import Derived.Handed
import Derived.Test.YtkiejckaaipdkaaGreatDoorWli12
set_option linter.unusedVariables false
set_option linter.unusedSimpArgs false
namespace Go.Proofs.YtkiejckaaipdkaaGreatDoor.fnExactWorldLines
open Go.ChangeShapes Go.WideShapes Go.ChangeAt Go.RowKit Go.Rf Go.Rf.S
set_option maxRecDepth 100000
theorem own : ownKnob Tryz.prog.godebug = none := by kernel_rfl
theorem mixed : EE.P.follows .mixedOrders = true := by kernel_rfl
theorem names : NamesOK EE.P := namesOK_of (by kernel_rfl)
theorem runOK : RunOK EE Go.Rf.S.R := run_ok X X_ok mixed names
theorem table {W : World} (h : laidMetH Tryz.prog Rows.fnExactWorldLinesRow.laid W) : ∀ t ∈ Go.Rf.S.laid.tabs, Blk W t.1 t.2 := by
  rw [MakeChecks.laidMetH_plain _ _ _ (by kernel_rfl)] at h
  have h2 := h.filter (fun x => x.1 == "internal/strconv.uint64pow10")
  have e : (Rows.fnExactWorldLinesRow.laid.filter fun x => x.1 == "internal/strconv.uint64pow10") = [("internal/strconv.uint64pow10", Lib.tabData .u64 Lib.pow10Tab)] := by kernel_rfl
  rw [e] at h2
  have h3 : Lib.TabIs Tryz.prog W "internal/strconv.uint64pow10" .u64 Lib.pow10Tab := Lib.tabIs_of_head (P := Tryz.prog) (g := 0) (by kernel_rfl) rfl Tryz.underlying218 (by kernel_rfl) (by kernel_rfl) (by kernel_rfl) h2
  intro t ht
  obtain rfl := List.mem_singleton.1 ht
  unfold Lib.TabIs World.var? at h3
  have hg : Tryz.prog.globalNamed "internal/strconv.uint64pow10" = some 0 := by kernel_rfl
  rw [hg] at h3
  simp only [Option.bind_some] at h3
  split at h3
  · rename_i cs e fz hb
    exact ⟨e, fz, by rw [hb, ← Option.some.inj h3]⟩
  · cases h3
theorem lifted (os : Os) (started : os.Started) (H : Type) (enc : TypeId × Value → H) :
    ReturnsInHanded {} Tryz.checked os 3 .any (fun w args => (Rows.fnExactWorldLinesSpec.pre enc Tryz.prog Tryz.f3 Rows.fnExactWorldLinesRow.domain false w args ∧ laidMetH Tryz.prog Rows.fnExactWorldLinesRow.laid w) ∧ sizedMet enc Tryz.prog Tryz.f3 (OpenSpec.ofChange Rows.fnExactWorldLinesSpec) false w args)
      (Rows.fnExactWorldLinesSpec.post enc Tryz.prog Tryz.f3 false true false false) := by
  refine returnsInHanded_of_change_and (C := Tryz.checked) (X := fun w _ => laidMetH Tryz.prog Rows.fnExactWorldLinesRow.laid w) (fun _ _ _ hh h => h.of_heap hh) own started (by kernel_rfl) Tryz.func3
    (ChangeSpec.witness_shaped (enc := enc) (C := Tryz.checked) (os := os) (X := fun w _ => laidMetH Tryz.prog Rows.fnExactWorldLinesRow.laid w) false (World.laidAll Tryz.prog os Rows.fnExactWorldLinesRow.laid) #[.agg #[.string ⟨#[]⟩, .int .i64 0, .int .i64 0, .int .i64 0, .int .i64 0, .string ⟨#[]⟩, .string ⟨#[]⟩, .string ⟨#[]⟩, .slice none 0 0, .slice none 0 0, .bool false, .bool false, .slice none 0 0, .slice none 0 0, .slice none 0 0, .slice none 0 0, .slice none 0 0, .bool false]] 8 (World.laidAll_os _ _ _)
      (World.shaped_of_ZipB (by kernel_rfl) (by kernel_rfl)) (by kernel_rfl) (by kernel_rfl) (by kernel_rfl)
      (by rw [MakeChecks.laidMetH_plain _ _ _ (by kernel_rfl)]; exact laidMet_laidAll _ (by kernel_rfl) (by kernel_rfl))) ?_
  intro W base args ds gs before hval hW hcnd hsz hL hh
  refine law_row (C := Tryz.checked) (cfg := lookC cfgs) (R := Go.Rf.S.R) runOK (tys := [((.pair (.pair .str (.pair (.pair (.int .i64) (.pair (.int .i64) (.pair (.int .i64) (.pair (.int .i64) (.pair .str (.pair .str (.pair .str .unit))))))) (.pair (.pair (.sl .str) (.pair (.sl (.pair (.int .i64) (.pair .str .unit))) .unit)) (.pair .bool (.pair .bool .unit))))) (.pair (.pair (.sl .str) (.pair (.sl (.pair (.int .i64) (.pair .str .unit))) .unit)) (.pair (.sl (.pair (.int .i64) (.pair (.int .i64) .unit))) (.pair (.sl (.sl (.pair (.sl (.pair (.int .i64) (.pair (.int .i64) (.pair (.int .i64) .unit)))) .unit))) (.pair (.sl (.pair (.int .i64) (.pair (.sl (.int .i64)) .unit))) (.pair .bool .unit)))))) : Ty)]) (keep := (lookC cfgs 3).keep) (mv := (lookC cfgs 3).mv) (tb := 4) (n := 1) (by kernel_rfl) Tryz.func3 (by kernel_rfl) (by kernel_rfl) (by kernel_rfl) rfl
    (fun H ds h => ?_) (by kernel_rfl) (by kernel_rfl) (by kernel_rfl) (by kernel_rfl) ?_ ?_ enc W (table hL) base args ds gs before hval hW
  · match ds, h with
    | [d0], _ => rfl
  · intro t ht
    have e : Tryz.f3.params.toList = [34] := by kernel_rfl
    rw [e] at ht
    have : t = 34 := by simpa using ht
    rcases this with rfl
    · exact ⟨by kernel_rfl, of_decide_eq_true (by kernel_rfl)⟩
  · intro dy hdy hf
    match dy, hdy with
    | [⟨t0, x0⟩], hdy =>
      simp only [List.map_cons, List.map_nil, List.cons.injEq, and_true] at hdy
      obtain rfl := hdy
      exact ⟨(true, ()), Go.Rf.S.law_WorldLines x0 hf.1, rfl⟩
theorem over : Rows.fnExactWorldLinesRow.holds Tryz.pinned (OpenSpec.ofChange Rows.fnExactWorldLinesSpec) :=
  OpenClaim.holds_of_wide 3 Tryz.f3 rfl rfl rfl rfl rfl rfl rfl ⟨rfl, rfl, rfl, rfl, rfl⟩ rfl rfl rfl rfl rfl (by kernel_rfl) Tryz.func3 (by kernel_rfl)
    (of_decide_eq_true (by kernel_rfl)) (by unfold Func.isWrapper; first | (rw [if_pos (by decide +kernel)]; kernel_rfl) | (rw [if_neg (by decide +kernel)]; exact ⟨rfl, rfl⟩))
    (fun os started H enc _ => lifted os started H enc)
theorem proved : Rows.FnExactWorldLinesSaid := over
end Go.Proofs.YtkiejckaaipdkaaGreatDoor.fnExactWorldLines
namespace Go.Proofs.YtkiejckaaipdkaaGreatDoor
/-- The tied card. -/
theorem fnExactWorldLinesCard_holds : Rows.FnExactWorldLinesCardSaid :=
  Claim7.holds_tied_plain_at .later [] [.data, .data, .data] true (true, "9fcaddffea72e9dfdcd95a19fe1eaf191c0cb0f4e6034807ab6580a3a181150e") true
    fnExactWorldLines.proved (fun _ h => by cases h) (by kernel_rfl) (fun _ h => by cases h) fnExactWorldLines_row_tie rfl ⟨rfl, rfl⟩ (by kernel_rfl) rfl
    (fun f fn hf hfn => by
      obtain rfl : f = 3 := Option.some.inj ((show Tryz.prog.funcNamed "loop.example/g00548/laws.FnExactWorldLines" = some 3 by kernel_rfl).symm.trans hf) |>.symm
      obtain rfl : fn = Tryz.f3 := (Option.some.inj (Tryz.func3.symm.trans hfn)).symm
      exact ⟨by kernel_rfl, fun j t ht => by
        have hp : Tryz.f3.params.toList.all (fun t => !Tryz.prog.wantsStandIn t) = true := by kernel_rfl
        have := List.all_eq_true.1 hp t (List.mem_of_getElem? (i := j) (by simpa using ht))
        exact (show Tryz.prog.wantsStandIn t = false by simpa using this)⟩)
    (by kernel_rfl)
end Go.Proofs.YtkiejckaaipdkaaGreatDoor
