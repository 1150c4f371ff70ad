/- What the program computes, in plain words: part 8. No condition. -/
import Derived.Test.YtcikhcfofnlegaaGreatRows
import Derived.Test.YtcikhcfofnlegaaGreatHol4
open Go.Proofs.Tryz renaming f9->Aa,prog->Ab,func9->Ac
set_option linter.unusedVariables false
set_option linter.unusedSimpArgs false
section
namespace Go.Proofs.YtcikhcfofnlegaaGreat.fnExactHolds
open Go.ChangeShapes Go.WideShapes Go.ChangeAt Go.RowKit Go.Rf Go.Rf.S
set_option maxRecDepth 100000
theorem own:ownKnob Ab.godebug=none:=by kernel_rfl
theorem mixed:EE.P.follows .mixedOrders=true:=by kernel_rfl
theorem B1U:As9 EE.P:=A2v (by kernel_rfl)
theorem BI2:A2U EE Go.Rf.S.R:=Bx9 X B4B mixed B1U
theorem lifted (os:Os) (started:os.Started) (H:Type) (enc:TypeId × Value→H):
  ReturnsInHanded {} Tryz.checked os 9 .any (Rows.fnExactHoldsSpec.pre6 enc Ab Aa Rows.fnExactHoldsRow.domain false) (Rows.fnExactHoldsSpec.post enc Ab Aa false true false false):=by
 refine returnsInHanded_of_change_sized (C:=Tryz.checked) own started (by kernel_rfl) Ac
  (ChangeSpec.witness6 (enc:=enc) (C:=Tryz.checked) false ⟨#[],#[.agg #[.string ⟨#[]⟩,.int .i64 0,.int .i64 0,.int .i64 0,.int .i64 0,.string ⟨#[]⟩,.string ⟨#[]⟩,.string ⟨#[]⟩,.slice none 0 0,.slice none 0 0,.bool false,.bool false,.slice none 0 0,.slice none 0 0,.slice none 0 0,.slice none 0 0,.slice none 0 0,.bool false]],[]⟩ 8 (by kernel_rfl) (by kernel_rfl) (by kernel_rfl) (by kernel_rfl)) ?_
 intro W base args ds gs before hval hW hcnd hsz hh
 refine B0Z (C:=Tryz.checked) (cfg:=BU7 B3M) (R:=Go.Rf.S.R) BI2 (tys:=[((.pair (.pair .str (.pair (.pair (.int .i64) (.pair (.int .i64) (.pair (.int .i64) (.pair (.int .i64) (.pair .str (.pair .str (.pair .str .unit))))))) (.pair (.pair (.sl .str) (.pair (.sl (.pair (.int .i64) (.pair .str .unit))) .unit)) (.pair .bool (.pair .bool .unit))))) (.pair (.pair (.sl .str) (.pair (.sl (.pair (.int .i64) (.pair .str .unit))) .unit)) (.pair (.sl (.pair (.int .i64) (.pair (.int .i64) .unit))) (.pair (.sl (.sl (.pair (.sl (.pair (.int .i64) (.pair (.int .i64) (.pair (.int .i64) .unit)))) .unit))) (.pair (.sl (.pair (.int .i64) (.pair (.sl (.int .i64)) .unit))) (.pair .bool .unit)))))):Ty)]) (keep:=(BU7 B3M 9).keep) (mv:=(BU7 B3M 9).mv) (tb:=4) (n:=1) (by kernel_rfl) Ac (by kernel_rfl) (by kernel_rfl) (by kernel_rfl) rfl
  (fun H ds h=>?_) (by kernel_rfl) (by kernel_rfl) (by kernel_rfl) (by kernel_rfl) ?_ ?_ enc W (fun _ ht=>by cases ht) base args ds gs before hval hW
 ·match ds,h with
  | [d0],_=>rfl
 ·intro t ht
  have e:Aa.params.toList=[77]:=by kernel_rfl
  rw[e] at ht
  have:t=77:=by simpa only[List.mem_cons,List.not_mem_nil,or_false] using ht
  rcases this with rfl
  ·exact⟨by kernel_rfl,of_decide_eq_true (by kernel_rfl)⟩
 ·intro dy hdy hf
  match dy,hdy with
  | [⟨t0,x0⟩],hdy=>
   simp only[List.map_cons,List.map_nil,List.cons.injEq,and_true] at hdy
   obtain rfl:=hdy
   exact⟨(true,()),Go.Rf.S.law_Holds x0 hf.1,rfl⟩
noncomputable abbrev PG:Program:=Ab
noncomputable abbrev RO:OpenClaim:=Rows.fnExactHoldsRow
noncomputable abbrev SP:ChangeSpec:=Rows.fnExactHoldsSpec
theorem bt {a b:Bool} (h:a=true) (k:b=true):(a&&b)=true:=by rw[h,k];rfl
theorem g0:(RO.wf (OpenSpec.ofChange SP))=true:=by kernel_rfl
theorem g1:(laidOutB PG)=true:=by kernel_rfl
theorem g2:(mapsRowed PG)=true:=by kernel_rfl
theorem g3:(Aa.params.all (PG.readableRec ·))=true:=by kernel_rfl
theorem g4:(namedTie PG RO.named SP.vars)=true:=by kernel_rfl
theorem g5:(RO.stops == [])=true:=by kernel_rfl
theorem g6:(PG.stops == [])=true:=by kernel_rfl
theorem g7:(RO.knobs == [])=true:=by kernel_rfl
theorem g8:(PG.stopKnobs == [])=true:=by kernel_rfl
theorem g9:(RO.inPlace == PG.inPlace 9)=true:=by kernel_rfl
theorem g10:(RO.unfollowed == PG.unfollowed 9)=true:=by kernel_rfl
theorem g11:(RO.recurses == PG.recurses 9)=true:=by kernel_rfl
theorem g12:(RO.named == PG.varsNamed 9)=true:=by kernel_rfl
theorem g13:(RO.maps == (Aa.params.toList++SP.plain.varTypes PG).any (PG.mapsRec ·))=true:=by kernel_rfl
theorem g14:(RO.ifaces == (Aa.params.toList++SP.plain.varTypes PG).any (PG.ifacesRec ·))=true:=by kernel_rfl
theorem g15:(RO.mapsOut == PG.mapsAmong Aa.resultTypes.toList)=true:=by kernel_rfl
theorem g16:(RO.loops == (Aa.params.toList++SP.plain.varTypes PG).any (PG.loopsFrom ·))=true:=by kernel_rfl
theorem g17:(RO.wideKeys == (Aa.params.toList++SP.plain.varTypes PG++Aa.resultTypes.toList).any (PG.wideKeysFrom ·))=true:=by kernel_rfl
theorem g18:(SP.vars.all (PG.varReadable ·))=true:=by kernel_rfl
theorem g19:(Aa.resultTypes.all (fun t=>PG.readableRec t&&decide (t < PG.types.size)))=true:=by kernel_rfl
theorem g20:(RO.ifacesOut == Aa.resultTypes.toList.any (PG.ifacesRec ·))=true:=by kernel_rfl
theorem g21:(RO.loopsOut == Aa.resultTypes.toList.any (PG.loopsFrom ·))=true:=by kernel_rfl
theorem g22:(RO.plainKeys == PG.plainKeys)=true:=by kernel_rfl
theorem g23:(RO.shortTexts.isNone)=true:=by kernel_rfl
theorem g24:(PG.stopsHeard)=true:=by kernel_rfl
theorem g25:(PG.mayEnter)=true:=by kernel_rfl
theorem g26:(RO.lifted == PG.liftsFinal)=true:=by kernel_rfl
theorem g27:(PG.make == some RO.make)=true:=by kernel_rfl
theorem g28:(RO.kinds == (if RO.domain.isEmpty then [] else Aa.params.toList.map fun t=>match PG.underlying t with|some (.int k)=>some k|_=>none))=true:=by kernel_rfl
theorem g29:(RO.pinned == RO.pinnedBy)=true:=by kernel_rfl
theorem g30:(RO.veiled == (Aa.params.toList++SP.plain.varTypes PG++Aa.resultTypes.toList).any (PG.veiledRec ·))=true:=by kernel_rfl
theorem g31:(RO.veiledFits PG Aa.params.toList (Aa.params.toList++SP.plain.varTypes PG++Aa.resultTypes.toList))=true:=by kernel_rfl
theorem oB:joinedFacts PG 9 Aa SP RO=true:=(bt (bt (bt (bt (bt (bt (bt (bt (bt (bt (bt (bt (bt (bt (bt (bt (bt (bt (bt (bt (bt (bt (bt (bt (bt (bt (bt (bt (bt (bt (bt g0 g1) g2) g3) g4) g5) g6) g7) g8) g9) g10) g11) g12) g13) g14) g15) g16) g17) g18) g19) g20) g21) g22) g23) g24) g25) g26) g27) g28) g29) g30) g31)
theorem B1j:Rows.fnExactHoldsRow.holds Tryz.pinned (OpenSpec.ofChange Rows.fnExactHoldsSpec):=
 OpenClaim.holds_of_wide 9 Aa rfl rfl rfl rfl rfl rfl rfl ⟨rfl,rfl,rfl,rfl,rfl⟩ rfl rfl rfl rfl rfl (by kernel_rfl) Ac oB
  (of_decide_eq_true (by kernel_rfl)) (by unfold Func.isWrapper;first|(rw[if_pos (by decide +kernel)];kernel_rfl)| (rw[if_neg (by decide +kernel)];exact⟨rfl,rfl⟩))
  (fun os started H enc _=>lifted os started H enc)
theorem proved:Rows.FnExactHoldsSaid:=B1j
end Go.Proofs.YtcikhcfofnlegaaGreat.fnExactHolds
namespace Go.Proofs.YtcikhcfofnlegaaGreat
theorem fnExactHolds_holds:Rows.FnExactHoldsSaid:=fnExactHolds.proved
end Go.Proofs.YtcikhcfofnlegaaGreat

end
