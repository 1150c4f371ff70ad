/- What the program computes, in plain words: part 8. No condition. -/
import Derived.Test.YtpnhinlcggjjkaaGreatRows
import Derived.Test.YtpnhinlcggjjkaaGreatIni4
set_option linter.unusedVariables false
set_option linter.unusedSimpArgs false
section
namespace Go.Proofs.YtpnhinlcggjjkaaGreat.fnInit
open Go.ChangeShapes Go.WideShapes Go.ChangeAt Go.RowKit Go.Rf Go.Rf.S
set_option maxRecDepth 100000
theorem own : ownKnob Tryz.prog.godebug = none := by kernel_rfl
theorem mixed : EE.P.follows .mixedOrders = true := by kernel_rfl
theorem BM6 : AT9 EE.P := Ao0 (by kernel_rfl)
theorem A2m : Al0 EE Go.Rf.S.R := BG0 X Bi2 mixed BM6
theorem lifted (os : Os) (started : os.Started) (H : Type) (enc : TypeId × Value → H) :
  ReturnsInHanded {} Tryz.checked os 3 .any (Rows.fnInitSpec.pre6 enc Tryz.prog Tryz.f3 Rows.fnInitRow.domain false) (Rows.fnInitSpec.post enc Tryz.prog Tryz.f3 false true false false) := by
 refine returnsInHanded_of_change_sized (C := Tryz.checked) own started (by kernel_rfl) Tryz.func3
  (ChangeSpec.witness6 (enc := enc) (C := Tryz.checked) false ⟨#[], #[.slice none 0 0, .slice none 0 0], []⟩ 8 (by kernel_rfl) (by kernel_rfl) (by kernel_rfl) (by kernel_rfl)) ?_
 intro W base args ds gs before hval hW hcnd hsz hh
 refine BN2 (C := Tryz.checked) (cfg := A3E BT7) (R := Go.Rf.S.R) A2m (tys := [((.sl (.int .u8)) : Ty), ((.sl (.int .u8)) : Ty)]) (keep := (A3E BT7 3).keep) (mv := (A3E BT7 3).mv) (tb := 4) (n := 2) (by kernel_rfl) Tryz.func3 (by kernel_rfl) (by kernel_rfl) (by kernel_rfl) rfl
  (fun H ds h => ?_) (by kernel_rfl) (by kernel_rfl) (by kernel_rfl) (by kernel_rfl) ?_ ?_ enc W (fun _ ht => by cases ht) base args ds gs before hval hW
 ·match ds, h with
  | [d0, d1], _ => rfl
 ·intro t ht
  have e : Tryz.f3.params.toList = [22, 22] := by kernel_rfl
  rw [e] at ht
  have : t = 22 ∨ t = 22 := by simpa only [List.mem_cons, List.not_mem_nil, or_false] using ht
  rcases this with rfl | rfl
  ·exact ⟨by kernel_rfl, of_decide_eq_true (by kernel_rfl)⟩
  ·exact ⟨by kernel_rfl, of_decide_eq_true (by kernel_rfl)⟩
 ·intro dy hdy hf
  match dy, hdy with
  | [⟨t0, x0⟩, ⟨t1, x1⟩], hdy =>
   simp only [List.map_cons, List.map_nil, List.cons.injEq, and_true] at hdy
   obtain ⟨rfl, rfl⟩ := hdy
   exact ⟨(true, ()), Go.Rf.S.law_Init x0 x1 hf.1 hf.2.1, rfl⟩
noncomputable abbrev PG : Program := Tryz.prog
noncomputable abbrev RO : OpenClaim := Rows.fnInitRow
noncomputable abbrev SP : ChangeSpec := Rows.fnInitSpec
theorem bt {a b : Bool} (h : a = true) (k : b = true) : (a && b) = true := by rw [h, k]; rfl
theorem g0 : (RO.wf (OpenSpec.ofChange SP)) = true := by kernel_rfl
theorem g1 : (laidOutB PG) = true := by kernel_rfl
theorem g2 : (mapsRowed PG) = true := by kernel_rfl
theorem g3 : (Tryz.f3.params.all (PG.readableRec ·)) = true := by kernel_rfl
theorem g4 : (namedTie PG RO.named SP.vars) = true := by kernel_rfl
theorem g5 : (RO.stops == []) = true := by kernel_rfl
theorem g6 : (PG.stops == []) = true := by kernel_rfl
theorem g7 : (RO.knobs == []) = true := by kernel_rfl
theorem g8 : (PG.stopKnobs == []) = true := by kernel_rfl
theorem g9 : (RO.inPlace == PG.inPlace 3) = true := by kernel_rfl
theorem g10 : (RO.unfollowed == PG.unfollowed 3) = true := by kernel_rfl
theorem g11 : (RO.recurses == PG.recurses 3) = true := by kernel_rfl
theorem g12 : (RO.named == PG.varsNamed 3) = true := by kernel_rfl
theorem g13 : (RO.maps == (Tryz.f3.params.toList ++ SP.plain.varTypes PG).any (PG.mapsRec ·)) = true := by kernel_rfl
theorem g14 : (RO.ifaces == (Tryz.f3.params.toList ++ SP.plain.varTypes PG).any (PG.ifacesRec ·)) = true := by kernel_rfl
theorem g15 : (RO.mapsOut == PG.mapsAmong Tryz.f3.resultTypes.toList) = true := by kernel_rfl
theorem g16 : (RO.loops == (Tryz.f3.params.toList ++ SP.plain.varTypes PG).any (PG.loopsFrom ·)) = true := by kernel_rfl
theorem g17 : (RO.wideKeys == (Tryz.f3.params.toList ++ SP.plain.varTypes PG ++ Tryz.f3.resultTypes.toList).any (PG.wideKeysFrom ·)) = true := by kernel_rfl
theorem g18 : (SP.vars.all (PG.varReadable ·)) = true := by kernel_rfl
theorem g19 : (Tryz.f3.resultTypes.all (fun t => PG.readableRec t && decide (t < PG.types.size))) = true := by kernel_rfl
theorem g20 : (RO.ifacesOut == Tryz.f3.resultTypes.toList.any (PG.ifacesRec ·)) = true := by kernel_rfl
theorem g21 : (RO.loopsOut == Tryz.f3.resultTypes.toList.any (PG.loopsFrom ·)) = true := by kernel_rfl
theorem g22 : (RO.plainKeys == PG.plainKeys) = true := by kernel_rfl
theorem g23 : (RO.shortTexts.isNone) = true := by kernel_rfl
theorem g24 : (PG.stopsHeard) = true := by kernel_rfl
theorem g25 : (PG.mayEnter) = true := by kernel_rfl
theorem g26 : (RO.lifted == PG.liftsFinal) = true := by kernel_rfl
theorem g27 : (PG.make == some RO.make) = true := by kernel_rfl
theorem g28 : (RO.kinds == (if RO.domain.isEmpty then [] else Tryz.f3.params.toList.map fun t => match PG.underlying t with | some (.int k) => some k | _ => none)) = true := by kernel_rfl
theorem g29 : (RO.pinned == RO.pinnedBy) = true := by kernel_rfl
theorem g30 : (RO.veiled == (Tryz.f3.params.toList ++ SP.plain.varTypes PG ++ Tryz.f3.resultTypes.toList).any (PG.veiledRec ·)) = true := by kernel_rfl
theorem g31 : (RO.veiledFits PG Tryz.f3.params.toList (Tryz.f3.params.toList ++ SP.plain.varTypes PG ++ Tryz.f3.resultTypes.toList)) = true := by kernel_rfl
theorem sR : joinedFacts PG 3 Tryz.f3 SP RO = true := (bt (bt (bt (bt (bt (bt (bt (bt (bt (bt (bt (bt (bt (bt (bt (bt (bt (bt (bt (bt (bt (bt (bt (bt (bt (bt (bt (bt (bt (bt (bt g0 g1) g2) g3) g4) g5) g6) g7) g8) g9) g10) g11) g12) g13) g14) g15) g16) g17) g18) g19) g20) g21) g22) g23) g24) g25) g26) g27) g28) g29) g30) g31)
theorem Bl3 : Rows.fnInitRow.holds Tryz.pinned (OpenSpec.ofChange Rows.fnInitSpec) :=
 OpenClaim.holds_of_wide 3 Tryz.f3 rfl rfl rfl rfl rfl rfl rfl ⟨rfl, rfl, rfl, rfl, rfl⟩ rfl rfl rfl rfl rfl (by kernel_rfl) Tryz.func3 sR
  (of_decide_eq_true (by kernel_rfl)) (by unfold Func.isWrapper; first | (rw [if_pos (by decide +kernel)]; kernel_rfl) | (rw [if_neg (by decide +kernel)]; exact ⟨rfl, rfl⟩))
  (fun os started H enc _ => lifted os started H enc)
theorem proved : Rows.FnInitSaid := Bl3
end Go.Proofs.YtpnhinlcggjjkaaGreat.fnInit
namespace Go.Proofs.YtpnhinlcggjjkaaGreat
theorem fnInit_holds : Rows.FnInitSaid := fnInit.proved
end Go.Proofs.YtpnhinlcggjjkaaGreat

end
