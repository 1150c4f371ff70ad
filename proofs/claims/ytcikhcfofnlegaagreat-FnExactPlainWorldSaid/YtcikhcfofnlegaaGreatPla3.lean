/- What the program computes, in plain words: part 6. No condition. -/
import Derived.Test.YtcikhcfofnlegaaGreatRows
import Derived.Test.YtcikhcfofnlegaaGreatPla2
open Go.Proofs.Tryz renaming f4->Aa,prog->Ab,func4->Ac
set_option linter.unusedVariables false
set_option linter.unusedSimpArgs false
section
namespace Go.Proofs.YtcikhcfofnlegaaGreat.fnExactPlainWorld
open Go.ChangeShapes Go.WideShapes Go.ChangeAt Go.RowKit Go.Rf Go.Rf.S
set_option maxRecDepth 100000
theorem own:ownKnob Ab.godebug=none:=by kernel_rfl
theorem mixed:EE.P.follows .mixedOrders=true:=by kernel_rfl
theorem A9y:AO0 EE.P:=Aj6 (by kernel_rfl)
theorem A5j:Ag0 EE Go.Rf.S.R:=A81 X BR5 mixed A9y
theorem lifted (os:Os) (started:os.Started) (H:Type) (enc:TypeId × Value→H):
  ReturnsInHanded {} Tryz.checked os 4 .any (Rows.fnExactPlainWorldSpec.pre6 enc Ab Aa Rows.fnExactPlainWorldRow.domain false) (Rows.fnExactPlainWorldSpec.post enc Ab Aa false true false false):=by
 refine returnsInHanded_of_change_sized (C:=Tryz.checked) own started (by kernel_rfl) Ac
  (ChangeSpec.witness6 (enc:=enc) (C:=Tryz.checked) false ⟨#[],#[],[]⟩ 8 (by kernel_rfl) (by kernel_rfl) (by kernel_rfl) (by kernel_rfl)) ?_
 intro W base args ds gs before hval hW hcnd hsz hh
 refine BB1 (C:=Tryz.checked) (cfg:=A1r BG8) (R:=Go.Rf.S.R) A5j (tys:=[]) (keep:=(A1r BG8 4).keep) (mv:=(A1r BG8 4).mv) (tb:=4) (n:=0) (by kernel_rfl) Ac (by kernel_rfl) (by kernel_rfl) (by kernel_rfl) rfl
  (fun H ds h=>?_) (by kernel_rfl) (by kernel_rfl) (by kernel_rfl) (by kernel_rfl) ?_ ?_ enc W (fun _ ht=>by cases ht) base args ds gs before hval hW
 ·match ds,h with
  | [],_=>rfl
 ·intro t ht
  have e:Aa.params.toList=[]:=by kernel_rfl
  rw[e] at ht
  cases ht
 ·intro dy hdy hf
  match dy,hdy with
  | [],hdy=>
   exact⟨(true,()),Go.Rf.S.law_PlainWorld  ,rfl⟩
noncomputable abbrev PG:Program:=Ab
noncomputable abbrev RO:OpenClaim:=Rows.fnExactPlainWorldRow
noncomputable abbrev SP:ChangeSpec:=Rows.fnExactPlainWorldSpec
theorem bt {a b:Bool} (h:a=true) (k:b=true):(a&&b)=true:=by rw[h,k];rfl
theorem g0:(RO.wf (OpenSpec.ofChange SP))=true:=by kernel_rfl
theorem g1:(laidOutB PG)=true:=by kernel_rfl
theorem g2:(mapsRowed PG)=true:=by kernel_rfl
theorem g3:(Aa.params.all (PG.readableRec ·))=true:=by kernel_rfl
theorem g4:(namedTie PG RO.named SP.vars)=true:=by kernel_rfl
theorem g5:(RO.stops == [])=true:=by kernel_rfl
theorem g6:(PG.stops == [])=true:=by kernel_rfl
theorem g7:(RO.knobs == [])=true:=by kernel_rfl
theorem g8:(PG.stopKnobs == [])=true:=by kernel_rfl
theorem g9:(RO.inPlace == PG.inPlace 4)=true:=by kernel_rfl
theorem g10:(RO.unfollowed == PG.unfollowed 4)=true:=by kernel_rfl
theorem g11:(RO.recurses == PG.recurses 4)=true:=by kernel_rfl
theorem g12:(RO.named == PG.varsNamed 4)=true:=by kernel_rfl
theorem g13:(RO.maps == (Aa.params.toList++SP.plain.varTypes PG).any (PG.mapsRec ·))=true:=by kernel_rfl
theorem g14:(RO.ifaces == (Aa.params.toList++SP.plain.varTypes PG).any (PG.ifacesRec ·))=true:=by kernel_rfl
theorem g15:(RO.mapsOut == PG.mapsAmong Aa.resultTypes.toList)=true:=by kernel_rfl
theorem g16:(RO.loops == (Aa.params.toList++SP.plain.varTypes PG).any (PG.loopsFrom ·))=true:=by kernel_rfl
theorem g17:(RO.wideKeys == (Aa.params.toList++SP.plain.varTypes PG++Aa.resultTypes.toList).any (PG.wideKeysFrom ·))=true:=by kernel_rfl
theorem g18:(SP.vars.all (PG.varReadable ·))=true:=by kernel_rfl
theorem g19:(Aa.resultTypes.all (fun t=>PG.readableRec t&&decide (t < PG.types.size)))=true:=by kernel_rfl
theorem g20:(RO.ifacesOut == Aa.resultTypes.toList.any (PG.ifacesRec ·))=true:=by kernel_rfl
theorem g21:(RO.loopsOut == Aa.resultTypes.toList.any (PG.loopsFrom ·))=true:=by kernel_rfl
theorem g22:(RO.plainKeys == PG.plainKeys)=true:=by kernel_rfl
theorem g23:(RO.shortTexts.isNone)=true:=by kernel_rfl
theorem g24:(PG.stopsHeard)=true:=by kernel_rfl
theorem g25:(PG.mayEnter)=true:=by kernel_rfl
theorem g26:(RO.lifted == PG.liftsFinal)=true:=by kernel_rfl
theorem g27:(PG.make == some RO.make)=true:=by kernel_rfl
theorem g28:(RO.kinds == (if RO.domain.isEmpty then [] else Aa.params.toList.map fun t=>match PG.underlying t with|some (.int k)=>some k|_=>none))=true:=by kernel_rfl
theorem g29:(RO.pinned == RO.pinnedBy)=true:=by kernel_rfl
theorem g30:(RO.veiled == (Aa.params.toList++SP.plain.varTypes PG++Aa.resultTypes.toList).any (PG.veiledRec ·))=true:=by kernel_rfl
theorem g31:(RO.veiledFits PG Aa.params.toList (Aa.params.toList++SP.plain.varTypes PG++Aa.resultTypes.toList))=true:=by kernel_rfl
theorem sE:joinedFacts PG 4 Aa SP RO=true:=(bt (bt (bt (bt (bt (bt (bt (bt (bt (bt (bt (bt (bt (bt (bt (bt (bt (bt (bt (bt (bt (bt (bt (bt (bt (bt (bt (bt (bt (bt (bt g0 g1) g2) g3) g4) g5) g6) g7) g8) g9) g10) g11) g12) g13) g14) g15) g16) g17) g18) g19) g20) g21) g22) g23) g24) g25) g26) g27) g28) g29) g30) g31)
theorem BS8:Rows.fnExactPlainWorldRow.holds Tryz.pinned (OpenSpec.ofChange Rows.fnExactPlainWorldSpec):=
 OpenClaim.holds_of_wide 4 Aa rfl rfl rfl rfl rfl rfl rfl ⟨rfl,rfl,rfl,rfl,rfl⟩ rfl rfl rfl rfl rfl (by kernel_rfl) Ac sE
  (of_decide_eq_true (by kernel_rfl)) (by unfold Func.isWrapper;first|(rw[if_pos (by decide +kernel)];kernel_rfl)| (rw[if_neg (by decide +kernel)];exact⟨rfl,rfl⟩))
  (fun os started H enc _=>lifted os started H enc)
theorem proved:Rows.FnExactPlainWorldSaid:=BS8
end Go.Proofs.YtcikhcfofnlegaaGreat.fnExactPlainWorld
namespace Go.Proofs.YtcikhcfofnlegaaGreat
theorem fnExactPlainWorld_holds:Rows.FnExactPlainWorldSaid:=fnExactPlainWorld.proved
end Go.Proofs.YtcikhcfofnlegaaGreat

end
