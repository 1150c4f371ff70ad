/- What the program computes, in plain words: part 9. No condition. -/
import Derived.Test.YtcikhcfofnlegaaGreatRows
import Derived.Test.YtcikhcfofnlegaaGreatSut4
set_option linter.unusedVariables false
set_option linter.unusedSimpArgs false
section
namespace Go.Proofs.YtcikhcfofnlegaaGreat.fnExactSubmitTorn
open Go.ChangeShapes Go.WideShapes Go.ChangeAt Go.RowKit Go.Rf Go.Rf.S
set_option maxRecDepth 100000
theorem own : ownKnob Tryz.prog.godebug = none := by kernel_rfl
theorem mixed : EE.P.follows .mixedOrders = true := by kernel_rfl
theorem names : NamesOK EE.P := namesOK_of (by kernel_rfl)
theorem runOK : RunOK EE Go.Rf.S.R := run_ok X X_ok mixed names
theorem lifted (os : Os) (started : os.Started) (H : Type) (enc : TypeId × Value → H) :
  ReturnsInHanded {} Tryz.checked os 6 .any (Rows.fnExactSubmitTornSpec.pre6 enc Tryz.prog Tryz.f6 Rows.fnExactSubmitTornRow.domain false) (Rows.fnExactSubmitTornSpec.post enc Tryz.prog Tryz.f6 false true false false) := by
 refine returnsInHanded_of_change_sized (C := Tryz.checked) own started (by kernel_rfl) Tryz.func6
  (ChangeSpec.witness6 (enc := enc) (C := Tryz.checked) false ⟨#[], #[.agg #[.string ⟨#[]⟩, .int .i64 0, .int .i64 0, .int .i64 0, .int .i64 0, .string ⟨#[]⟩, .string ⟨#[]⟩, .string ⟨#[]⟩, .slice none 0 0, .slice none 0 0, .bool false, .bool false], .slice none 0 0, .slice none 0 0, .int .i64 0, .slice none 0 0], []⟩ 8 (by kernel_rfl) (by kernel_rfl) (by kernel_rfl) (by kernel_rfl)) ?_
 intro W base args ds gs before hval hW hcnd hsz hh
 refine law_row (C := Tryz.checked) (cfg := lookC cfgs) (R := Go.Rf.S.R) runOK (tys := [((.pair .str (.pair (.pair (.int .i64) (.pair (.int .i64) (.pair (.int .i64) (.pair (.int .i64) (.pair .str (.pair .str (.pair .str .unit))))))) (.pair (.pair (.sl .str) (.pair (.sl (.pair (.int .i64) (.pair .str .unit))) .unit)) (.pair .bool (.pair .bool .unit))))) : Ty), ((.sl (.pair (.sl (.pair (.int .i64) (.pair (.int .i64) (.pair (.int .i64) .unit)))) .unit)) : Ty), ((.sl (.int .i64)) : Ty), ((.int .i64) : Ty), ((.sl (.int .i64)) : Ty)]) (keep := (lookC cfgs 6).keep) (mv := (lookC cfgs 6).mv) (tb := 4) (n := 5) (by kernel_rfl) Tryz.func6 (by kernel_rfl) (by kernel_rfl) (by kernel_rfl) rfl
  (fun H ds h => ?_) (by kernel_rfl) (by kernel_rfl) (by kernel_rfl) (by kernel_rfl) ?_ ?_ enc W (fun _ ht => by cases ht) base args ds gs before hval hW
 ·match ds, h with
  | [d0, d1, d2, d3, d4], _ => rfl
 ·intro t ht
  have e : Tryz.f6.params.toList = [51, 52, 22, 3, 22] := by kernel_rfl
  rw [e] at ht
  have : t = 51 ∨ t = 52 ∨ t = 22 ∨ t = 3 ∨ t = 22 := by simpa only [List.mem_cons, List.not_mem_nil, or_false] using ht
  rcases this with rfl | rfl | rfl | rfl | rfl
  ·exact ⟨by kernel_rfl, of_decide_eq_true (by kernel_rfl)⟩
  ·exact ⟨by kernel_rfl, of_decide_eq_true (by kernel_rfl)⟩
  ·exact ⟨by kernel_rfl, of_decide_eq_true (by kernel_rfl)⟩
  ·exact ⟨by kernel_rfl, of_decide_eq_true (by kernel_rfl)⟩
  ·exact ⟨by kernel_rfl, of_decide_eq_true (by kernel_rfl)⟩
 ·intro dy hdy hf
  match dy, hdy with
  | [⟨t0, x0⟩, ⟨t1, x1⟩, ⟨t2, x2⟩, ⟨t3, x3⟩, ⟨t4, x4⟩], hdy =>
   simp only [List.map_cons, List.map_nil, List.cons.injEq, and_true] at hdy
   obtain ⟨rfl, rfl, rfl, rfl, rfl⟩ := hdy
   exact ⟨(true, ()), Go.Rf.S.law_SubmitTorn x0 x1 x2 x3 x4 hf.1 hf.2.1 hf.2.2.1 hf.2.2.2.1 hf.2.2.2.2.1, rfl⟩
noncomputable abbrev PG : Program := Tryz.prog
noncomputable abbrev RO : OpenClaim := Rows.fnExactSubmitTornRow
noncomputable abbrev SP : ChangeSpec := Rows.fnExactSubmitTornSpec
theorem bt {a b : Bool} (h : a = true) (k : b = true) : (a && b) = true := by rw [h, k]; rfl
theorem g0 : (RO.wf (OpenSpec.ofChange SP)) = true := by kernel_rfl
theorem g1 : (laidOutB PG) = true := by kernel_rfl
theorem g2 : (mapsRowed PG) = true := by kernel_rfl
theorem g3 : (Tryz.f6.params.all (PG.readableRec ·)) = true := by kernel_rfl
theorem g4 : (namedTie PG RO.named SP.vars) = true := by kernel_rfl
theorem g5 : (RO.stops == []) = true := by kernel_rfl
theorem g6 : (PG.stops == []) = true := by kernel_rfl
theorem g7 : (RO.knobs == []) = true := by kernel_rfl
theorem g8 : (PG.stopKnobs == []) = true := by kernel_rfl
theorem g9 : (RO.inPlace == PG.inPlace 6) = true := by kernel_rfl
theorem g10 : (RO.unfollowed == PG.unfollowed 6) = true := by kernel_rfl
theorem g11 : (RO.recurses == PG.recurses 6) = true := by kernel_rfl
theorem g12 : (RO.named == PG.varsNamed 6) = true := by kernel_rfl
theorem g13 : (RO.maps == (Tryz.f6.params.toList ++ SP.plain.varTypes PG).any (PG.mapsRec ·)) = true := by kernel_rfl
theorem g14 : (RO.ifaces == (Tryz.f6.params.toList ++ SP.plain.varTypes PG).any (PG.ifacesRec ·)) = true := by kernel_rfl
theorem g15 : (RO.mapsOut == PG.mapsAmong Tryz.f6.resultTypes.toList) = true := by kernel_rfl
theorem g16 : (RO.loops == (Tryz.f6.params.toList ++ SP.plain.varTypes PG).any (PG.loopsFrom ·)) = true := by kernel_rfl
theorem g17 : (RO.wideKeys == (Tryz.f6.params.toList ++ SP.plain.varTypes PG ++ Tryz.f6.resultTypes.toList).any (PG.wideKeysFrom ·)) = true := by kernel_rfl
theorem g18 : (SP.vars.all (PG.varReadable ·)) = true := by kernel_rfl
theorem g19 : (Tryz.f6.resultTypes.all (fun t => PG.readableRec t && decide (t < PG.types.size))) = true := by kernel_rfl
theorem g20 : (RO.ifacesOut == Tryz.f6.resultTypes.toList.any (PG.ifacesRec ·)) = true := by kernel_rfl
theorem g21 : (RO.loopsOut == Tryz.f6.resultTypes.toList.any (PG.loopsFrom ·)) = true := by kernel_rfl
theorem g22 : (RO.plainKeys == PG.plainKeys) = true := by kernel_rfl
theorem g23 : (RO.shortTexts.isNone) = true := by kernel_rfl
theorem g24 : (PG.stopsHeard) = true := by kernel_rfl
theorem g25 : (PG.mayEnter) = true := by kernel_rfl
theorem g26 : (RO.lifted == PG.liftsFinal) = true := by kernel_rfl
theorem g27 : (PG.make == some RO.make) = true := by kernel_rfl
theorem g28 : (RO.kinds == (if RO.domain.isEmpty then [] else Tryz.f6.params.toList.map fun t => match PG.underlying t with | some (.int k) => some k | _ => none)) = true := by kernel_rfl
theorem g29 : (RO.pinned == RO.pinnedBy) = true := by kernel_rfl
theorem g30 : (RO.veiled == (Tryz.f6.params.toList ++ SP.plain.varTypes PG ++ Tryz.f6.resultTypes.toList).any (PG.veiledRec ·)) = true := by kernel_rfl
theorem g31 : (RO.veiledFits PG Tryz.f6.params.toList (Tryz.f6.params.toList ++ SP.plain.varTypes PG ++ Tryz.f6.resultTypes.toList)) = true := by kernel_rfl
theorem closed : joinedFacts PG 6 Tryz.f6 SP RO = true := (bt (bt (bt (bt (bt (bt (bt (bt (bt (bt (bt (bt (bt (bt (bt (bt (bt (bt (bt (bt (bt (bt (bt (bt (bt (bt (bt (bt (bt (bt (bt g0 g1) g2) g3) g4) g5) g6) g7) g8) g9) g10) g11) g12) g13) g14) g15) g16) g17) g18) g19) g20) g21) g22) g23) g24) g25) g26) g27) g28) g29) g30) g31)
theorem over : Rows.fnExactSubmitTornRow.holds Tryz.pinned (OpenSpec.ofChange Rows.fnExactSubmitTornSpec) :=
 OpenClaim.holds_of_wide 6 Tryz.f6 rfl rfl rfl rfl rfl rfl rfl ⟨rfl, rfl, rfl, rfl, rfl⟩ rfl rfl rfl rfl rfl (by kernel_rfl) Tryz.func6 closed
  (of_decide_eq_true (by kernel_rfl)) (by unfold Func.isWrapper; first | (rw [if_pos (by decide +kernel)]; kernel_rfl) | (rw [if_neg (by decide +kernel)]; exact ⟨rfl, rfl⟩))
  (fun os started H enc _ => lifted os started H enc)
theorem proved : Rows.FnExactSubmitTornSaid := over
end Go.Proofs.YtcikhcfofnlegaaGreat.fnExactSubmitTorn
namespace Go.Proofs.YtcikhcfofnlegaaGreat
theorem fnExactSubmitTorn_holds : Rows.FnExactSubmitTornSaid := fnExactSubmitTorn.proved
end Go.Proofs.YtcikhcfofnlegaaGreat

end
