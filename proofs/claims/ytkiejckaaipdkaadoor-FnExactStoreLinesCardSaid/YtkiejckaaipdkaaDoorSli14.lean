/- FnExactStoreLines returns true at all data. No condition. -/
import Derived.Test.YtkiejckaaipdkaaDoorRows
import Derived.Test.YtkiejckaaipdkaaDoorTie
import Derived.Test.YtkiejckaaipdkaaDoorCards
import Derived.SevenTiedAt
import Derived.Lay
import Derived.MakeChecks
import Derived.Lib.LaidTab
import Derived.LaidSub
import Derived.Handed
import Derived.Test.YtkiejckaaipdkaaDoorSli13
set_option linter.unusedVariables false
set_option linter.unusedSimpArgs false
namespace Go.Proofs.YtkiejckaaipdkaaDoor.fnExactStoreLines
open Go.ChangeShapes Go.WideShapes Go.ChangeAt Go.RowKit Go.Rf Go.Rf.S
set_option maxRecDepth 100000
theorem own : ownKnob Tryd.prog.godebug = none := by kernel_rfl
theorem mixed : EE.P.follows .mixedOrders = true := by kernel_rfl
theorem names : NamesOK EE.P := namesOK_of (by kernel_rfl)
theorem runOK : RunOK EE Go.Rf.S.R := run_ok X X_ok mixed names
theorem table {W : World} (h : laidMetH Tryd.prog Rows.fnExactStoreLinesRow.laid W) : ∀ t ∈ Go.Rf.S.laid.tabs, Blk W t.1 t.2 := by
  rw [MakeChecks.laidMetH_plain _ _ _ (by kernel_rfl)] at h
  have h2 := h.filter (fun x => x.1 == "internal/strconv.uint64pow10")
  have e : (Rows.fnExactStoreLinesRow.laid.filter fun x => x.1 == "internal/strconv.uint64pow10") = [("internal/strconv.uint64pow10", Lib.tabData .u64 Lib.pow10Tab)] := by kernel_rfl
  rw [e] at h2
  have h3 : Lib.TabIs Tryd.prog W "internal/strconv.uint64pow10" .u64 Lib.pow10Tab := Lib.tabIs_of_head (P := Tryd.prog) (g := 0) (by kernel_rfl) rfl Tryd.underlying104 (by kernel_rfl) (by kernel_rfl) (by kernel_rfl) h2
  intro t ht
  obtain rfl := List.mem_singleton.1 ht
  unfold Lib.TabIs World.var? at h3
  have hg : Tryd.prog.globalNamed "internal/strconv.uint64pow10" = some 0 := by kernel_rfl
  rw [hg] at h3
  simp only [Option.bind_some] at h3
  split at h3
  · rename_i cs e fz hb
    exact ⟨e, fz, by rw [hb, ← Option.some.inj h3]⟩
  · cases h3
theorem lifted (os : Os) (started : os.Started) (H : Type) (enc : TypeId × Value → H) :
    ReturnsInHanded {} Tryd.checked os 3 .any (fun w args => (Rows.fnExactStoreLinesSpec.pre enc Tryd.prog Tryd.f3 Rows.fnExactStoreLinesRow.domain false w args ∧ laidMetH Tryd.prog Rows.fnExactStoreLinesRow.laid w) ∧ sizedMet enc Tryd.prog Tryd.f3 (OpenSpec.ofChange Rows.fnExactStoreLinesSpec) false w args)
      (Rows.fnExactStoreLinesSpec.post enc Tryd.prog Tryd.f3 false true false false) := by
  refine returnsInHanded_of_change_and (C := Tryd.checked) (X := fun w _ => laidMetH Tryd.prog Rows.fnExactStoreLinesRow.laid w) (fun _ _ _ hh h => h.of_heap hh) own started (by kernel_rfl) Tryd.func3
    (ChangeSpec.witness_shaped (enc := enc) (C := Tryd.checked) (os := os) (X := fun w _ => laidMetH Tryd.prog Rows.fnExactStoreLinesRow.laid w) false (World.laidAll Tryd.prog os Rows.fnExactStoreLinesRow.laid) #[.agg #[.string ⟨#[]⟩, .int .i64 0, .int .i64 0, .int .i64 0, .int .i64 0, .string ⟨#[]⟩, .string ⟨#[]⟩, .string ⟨#[]⟩, .slice none 0 0, .slice none 0 0, .bool false, .bool false]] 8 (World.laidAll_os _ _ _)
      (World.shaped_of_ZipB (by kernel_rfl) (by kernel_rfl)) (by kernel_rfl) (by kernel_rfl) (by kernel_rfl)
      (by rw [MakeChecks.laidMetH_plain _ _ _ (by kernel_rfl)]; exact laidMet_laidAll _ (by kernel_rfl) (by kernel_rfl))) ?_
  intro W base args ds gs before hval hW hcnd hsz hL hh
  refine law_row (C := Tryd.checked) (cfg := lookC cfgs) (R := Go.Rf.S.R) runOK (tys := [((.pair .str (.pair (.pair (.int .i64) (.pair (.int .i64) (.pair (.int .i64) (.pair (.int .i64) (.pair .str (.pair .str (.pair .str .unit))))))) (.pair (.pair (.sl .str) (.pair (.sl (.pair (.int .i64) (.pair .str .unit))) .unit)) (.pair .bool (.pair .bool .unit))))) : Ty)]) (keep := (lookC cfgs 3).keep) (mv := (lookC cfgs 3).mv) (tb := 4) (n := 1) (by kernel_rfl) Tryd.func3 (by kernel_rfl) (by kernel_rfl) (by kernel_rfl) rfl
    (fun H ds h => ?_) (by kernel_rfl) (by kernel_rfl) (by kernel_rfl) (by kernel_rfl) ?_ ?_ enc W (table hL) base args ds gs before hval hW
  · match ds, h with
    | [d0], _ => rfl
  · intro t ht
    have e : Tryd.f3.params.toList = [29] := by kernel_rfl
    rw [e] at ht
    have : t = 29 := by simpa using ht
    rcases this with rfl
    · exact ⟨by kernel_rfl, of_decide_eq_true (by kernel_rfl)⟩
  · intro dy hdy hf
    match dy, hdy with
    | [⟨t0, x0⟩], hdy =>
      simp only [List.map_cons, List.map_nil, List.cons.injEq, and_true] at hdy
      obtain rfl := hdy
      exact ⟨(true, ()), Go.Rf.S.law_StoreLines x0 hf.1, rfl⟩
theorem over : Rows.fnExactStoreLinesRow.holds Tryd.pinned (OpenSpec.ofChange Rows.fnExactStoreLinesSpec) :=
  OpenClaim.holds_of_wide 3 Tryd.f3 rfl rfl rfl rfl rfl rfl rfl ⟨rfl, rfl, rfl, rfl, rfl⟩ rfl rfl rfl rfl rfl (by kernel_rfl) Tryd.func3 (by kernel_rfl)
    (of_decide_eq_true (by kernel_rfl)) (by unfold Func.isWrapper; first | (rw [if_pos (by decide +kernel)]; kernel_rfl) | (rw [if_neg (by decide +kernel)]; exact ⟨rfl, rfl⟩))
    (fun os started H enc _ => lifted os started H enc)
theorem proved : Rows.FnExactStoreLinesSaid := over
end Go.Proofs.YtkiejckaaipdkaaDoor.fnExactStoreLines
namespace Go.Proofs.YtkiejckaaipdkaaDoor
/-- The tied card. -/
theorem fnExactStoreLinesCard_holds : Rows.FnExactStoreLinesCardSaid :=
  Claim7.holds_tied_plain_at .later [] [.data, .data, .data] true (true, "946d02140bf38db0fe59a6540eb4274793d54866a1e79e38de3bc15cc1ca9e6f") false
    fnExactStoreLines.proved (fun _ h => by cases h) (by kernel_rfl) (fun _ h => by cases h) fnExactStoreLines_row_tie rfl ⟨rfl, rfl⟩ (by kernel_rfl) rfl
    (fun f fn hf hfn => by
      obtain rfl : f = 3 := Option.some.inj ((show Tryd.prog.funcNamed "loop.example/g00548/laws.FnExactStoreLines" = some 3 by kernel_rfl).symm.trans hf) |>.symm
      obtain rfl : fn = Tryd.f3 := (Option.some.inj (Tryd.func3.symm.trans hfn)).symm
      exact ⟨by kernel_rfl, fun j t ht => by
        have hp : Tryd.f3.params.toList.all (fun t => !Tryd.prog.wantsStandIn t) = true := by kernel_rfl
        have := List.all_eq_true.1 hp t (List.mem_of_getElem? (i := j) (by simpa using ht))
        exact (show Tryd.prog.wantsStandIn t = false by simpa using this)⟩)
    (by kernel_rfl)
end Go.Proofs.YtkiejckaaipdkaaDoor
