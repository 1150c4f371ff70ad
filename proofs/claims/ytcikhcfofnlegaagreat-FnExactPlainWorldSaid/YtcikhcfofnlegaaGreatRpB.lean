/- An interpreter of the code over plain data, proved right against the machine: part 2. No condition. -/
import Derived.Test.YtcikhcfofnlegaaGreatRpA
import Derived.Laws.AppendOwn
import Derived.Laws.Tables
import Derived.Great.BuildSlice
import Derived.Tactics
import Derived.Orders
open Option.some renaming injEq->Aa,inj->Ap
open Option renaming map_eq_some_iff->Ab,bind_eq_some_iff->Aq,map_some->Bb,bind_assoc->B1,isSome_iff_exists->B3,map_none->Cg
open Nat renaming mul_le_mul_right->Ac,add_mul->Ah,le_refl->Al,one_mul->Av,add_zero->Ay,zero_add->A2,beq_eq->A3,lt_or_gt_of_ne->AQ,beq->AR,lt_of_lt_of_le->Bd,testBit->Bf,zero_le->B2,blt_eq->B6,ble_eq->BQ,eq_zero_or_pos->BR,le_of_eq->BW,sub_self->BX,mul_one->Ce,not_lt->Cj,mul_le_mul->Ck
open Bool renaming and_eq_true->Ad,cond_eq_ite->Aj,not_eq_true'->A8,or_eq_true->Ba,false_or->Cl
open List renaming getElem?_eq_some_iff->Ae,length->Ag,length_eq_zero_iff->Am,getElem?_cons_zero->Ao,pairwise_iff_getElem->Au,mem_of_getElem?->Aw,length_append->Ax,getElem?_eq_getElem->A1,getElem?_append_right->A4,cons_append->A5,getElem?_zip_eq_some->A6,getElem?_append_left->A7,getD->A9,cons_prefix_cons->AA,getElem?_cons_succ->AB,ext_getElem?->AC,getElem?_map->AD,getElem_map->AH,all_eq_true->AI,length_replicate->AJ,getElem?_toArray->AK,getElem?_eq_none->AL,mem_map->AN,mem_cons->AO,length_map->AT,foldl_cons->AU,getElem?_set->AV,size_toArray->AW,nil_append->Bc,getElem?_replicate->Be,isEmpty_iff->Bi,length_drop->Bj,drop_append_of_le_length->Bn,take_append_of_le_length->Bo,mem_zipIdx_iff_getElem?->Bp,dropLast_concat_getLast->Bq,replicate_succ->Bs,replicate->Bu,map->Bv,getElem?_eq_none_iff->By,pairwise_map->B0,length_cons->B4,getElem_zip->B5,map_map->B8,drop_eq_nil_of_le->B9,length_zip->BA,append_nil->BC,length_set->BD,mem_filter->BE,prefix_cons_inj->BF,drop_drop->BG,getElem?_of_mem->BI,drop->BK,take->BL,map_congr_left->BM,map_cons->BO,getElem?_drop->BP,pairwise_cons->BT,length_take->BZ,drop_append->Cb,drop_take->Ci
open Prod.mk renaming injEq->Af
open Go.Builtin renaming firstCells->Ai,append_->At,lenOf->Bl,copy_->Bm,zeroCells->BY
open List.cons renaming injEq->Ak
open _root_ renaming decide_eq_true_eq->Ar,if_neg->As,if_true->Az,if_pos->AE,true_and->AS,congrArg->AX,and_true->Bg,cond_false->BU,cond_true->Cc
open Int renaming toNat->A0
open Array renaming getD_eq_getD_getElem?->AF,toList_inj->AG,toList_map->AY,length_toList->A',getElem?_toList->Bh,getElem?_push->Br,foldl_toList->Bw,getElem?_eq_getElem->Bx,size_append->Bz,range->BH,toList_append->BN,map->Cp
open Go.Value.slice renaming injEq->AM
open Go.Region renaming wanted->AP,binds->AZ
open Go.Instr renaming indexAt->Bk,sureAddr->Bt,fill->BS,sliceBounds->BV,sliceBound->B',buildSlice->Ca,slice->Cd,makeSlice->Ch,fieldAt->Cm,sliceAt->Cn
open Ne renaming symm->B7
open Go.Question renaming forced->BB
open Go.Oper renaming dst->BJ
open Go.Op renaming operands->Cf
open Go.Addr.mk renaming injEq->Co
set_option linter.unusedVariables false
set_option linter.unusedSimpArgs false
section
namespace Go.Rf
set_option linter.unusedSectionVars false
variable [T:Laid]
section
variable {P:Program} {H:Nat→Option (List Value)} {N:Nat} {g g' σ:zW} {V V':Nat→Option Value} {w w':World} {S S':Nat→Prop} {β β':Key→Option Nat} {a:Act} {o:Oper}
variable {E:Env} {gv:zW} {us:List Up}
theorem A1x {t:TypeId} {x:Operand} (hc:Ctx E.P H S β a w o g) (hs:Sub gv g) (hm:o.op=.load t x)
  (hk:A4P gv o (E.ty t) x some=some us):yF E.P H S β a w o (g.ups us):=by
 unfold A4P at hk
 split at hk
 ·rename_i q hq
  split at hk
  ·rename_i d hat
   split at hk
   ·rename_i hcond
    simp only[Ad,Ar,A8] at hcond
    obtain⟨hty,hgn⟩:=hcond
    have hn:=uE hgn
    obtain⟨hq',hat',hr⟩:=iT hs hq hat
    obtain⟨e,cr,b,oo,he,hg,hb,hV,hl,hw,hx,_⟩:=kF hc.rel hq' hat'
    obtain⟨cr',L,c,k1,k2,k3,k4,k5,k6⟩:=hc.rel.place he hg hb hn
    have:=uA (Ap (k1.symm.trans hV)) k2 hl
    subst this
    rw[hw] at k4
    simp only[Aa,Af,AS] at k4
    subst k4
    have hrun:(execOp a.eval o).run E.P w=.ok (.value (zV d.t c)) w:=by
     simp only[execOp,hm,zH hx,Instr.loadAt,Bt,Sem.run_bind,Sem.run_pure,Result.andThen_ok,AT9 hty k5]
    split at hk
    ·rename_i hf
     have hf:=wW hf
     rw[hf,yO] at k6
     exact DV.look ⟨hf,c,k6,rfl⟩ hc.rel hc.dead hc.opIn hk hrun
    ·obtain⟨dd,ho,rfl⟩:=yG hk
     have ea:AM1 gv q=AM1 g q:=by simp[AM1,hr]
     rw[ea]
     exact AO2 hc.rel hc.dead ho (xF hc.opIn ho) hrun (A0Y (hc.dead.root he) he hg hn hb hV hl hw k5 rfl)
   ·cases hk
  ·cases hk
 ·cases hk
theorem AY4 {r:Nat} {p:List PS} {e d:Dat} {cr:List Value} {b oo dd:Nat} (hc:Ctx P H S β a w o g) (he:(g r).sv=.dat e) (hV:qD a r=some (zV e.t cr)) (hl:cr.length=e.t.size)
  (hw:vF w e.t (.reg cr) p=some (d.t,.mem b oo)) (hb:inB p e.t e.x) (hg:yJ p e.t e.f e.x=some d) (hn:jG p=true∨d.f.base≠.gone) (ho:o.dst=some dd)
  (hr:(execOp a.eval o).run P w=.ok (.value (.pointer (some ⟨b,oo,none⟩))) w):yF P H S β a w o (g.ups [.put dd (A3o g (r,p))]):=by
 refine AO2 hc.rel hc.dead ho (xF hc.opIn ho) hr ?_
 refine A1K (hc.dead.root he) (Al _) (Al _) fun _ dr hdr=>?_
 rw[he] at hdr
 simp only[SV.dat.injEq] at hdr
 subst hdr
 exact⟨cr,_,b,oo,hV,hl,hw,rfl,hb,fun hbx=>⟨d,hg,hn.resolve_left (by rw[hbx];simp)⟩⟩
theorem Al2 {ty:TypeId→Option Ty}:∀ {i:Nat} {fs:List Field} {off:Nat} {τ:Ty} {f:Fl} {x:τ.D} {d:Dat} {b o:Nat},qU ty fs off=some τ→yJ (zG i) τ f x=some d →
  ∃ fl,fs[i]?=some fl∧ty fl.type=some d.t∧off≤fl.offset∧vF w τ (.mem b o) (zG i)=some (d.t,.mem b (o+(fl.offset - off)))∧inB (zG i) τ x
 | i,[],off,τ,f,x,d,b,o,h,hg=>by
  simp only[qU,Aa] at h;subst h
  cases i<;>simp[zG,yJ] at hg
 | i,fl :: fs,off,τ,f,x,d,b,o,h,hg=>by
  simp only[qU] at h
  split at h
  ·rename_i a ha
   split at h
   ·rename_i ho
    simp only[A3] at ho
    simp only[Ab] at h
    obtain⟨τ',h,rfl⟩:=h
    cases i with
    | zero=>
     simp only[zG,yJ,Aa] at hg
     subst hg
     exact⟨fl,rfl,ha,by omega,by simp[zG,vF,xJ,dO,ho],by simp[zG,inB]⟩
    | succ i=>
     simp only[zG,yJ] at hg
     obtain⟨fl',h1,h2,h3,h4,h5⟩:=Al2 (b:=b) (o:=o+a.size) h hg
     refine⟨fl',by simpa using h1,h2,by omega,?_,by simpa[zG,inB] using h5⟩
     simp only[zG,vF,xJ,dO]
     rw[h4]
     congr 3
     omega
   ·cases h
  ·cases h
theorem AZ0:∀ {i:Nat},jumps (zG i)=false
 | 0=>rfl
 | i+1=>by simp only[zG,jumps,PS.jumps,Cl];exact AZ0
theorem A2p {d:Nat} {t:TypeId} {x y:Ty} (h:tyN P (d+1) t=some (.pair x y)):∃ fs,P.underlying t=some (.struct fs)∧qU (tyN P d) fs.toList 0=some (.pair x y):=by
 obtain⟨i,u,_,h2,_,h4⟩:=pD h
 unfold pI at h4
 cases u<;>simp only[reduceCtorEq] at h4<;>first
  | exact⟨_,h2,h4⟩
  | (obtain⟨a,_,h⟩:=h4;cases h)
theorem A2K {s:TypeId} {fs:Array Field} {fl:Field} {i b oo d:Nat} {τ:Ty} (hs:P.underlying s=some (.struct fs)) (hf:fs.toList[i]?=some fl) (ht:tyN P (d+1) fl.type=some τ) (hz:τ.size≠0):
  (Cm s (.pointer (some ⟨b,oo,none⟩)) i).run P w=.ok (.pointer (some ⟨b,oo+fl.offset,none⟩)) w:=by
 have hf':fs[i]?=some fl:=by simpa using hf
 simp only[Cm,Sem.run_bind,zC hs,Result.andThen_ok,hf',Bt,Sem.run_pure,fieldPlace,uF ht]
 rw[As hz]
 simp only[Sem.run_pure,Result.andThen_ok,mL]
theorem AV1 {t:TypeId} {x:Operand} {i:Nat} (hc:Ctx E.P H S β a w o g) (hs:Sub gv g) (hm:o.op=.fieldAddr t x i)
  (hk:iJ gv o (E.ty t) x i some=some us):yF E.P H S β a w o (g.ups us):=by
 unfold iJ at hk
 split at hk
 ·rename_i q hq
  split at hk
  ·rename_i hta
   split at hk
   ·rename_i d hat
    split at hk
    ·rename_i hcond
     simp only[Ad,A8,Ba] at hcond
     obtain⟨hgn,hz⟩:=hcond
     obtain⟨dd,ho,rfl⟩:=yG hk
     unfold A0M at hta
     cases hp:atP gv q.1 q.2 with
     | none=>
      rw[hp] at hta
      have hnot:=hs.atP hat
      obtain⟨e,he,hg⟩:=lX hat
      rw[Cg] at hta
      exfalso
      have hpar:∀ (p:List PS) (t:Ty) (f:Fl) (x:t.D) (j:Nat) (d:Dat),yJ (p++zG j) t f x=some d→yJ p t f x≠none:=by
       intro p
       induction p with
       | nil=>intro t f x j d _;simp[yJ]
       | cons s p ih=>
        intro t f x j d h
        cases s<;>cases t<;>simp only[A5,yJ,reduceCtorEq] at h ⊢<;>exact ih _ _ _ _ _ h
      unfold atP at hp
      rw[he] at hp
      exact hpar _ _ _ _ _ _ hg hp
     | some d0=>
      rw[hp] at hta
      simp only[Bb] at hta
      obtain⟨hq',hat',hr⟩:=iT hs hq hp
      obtain⟨e,cr,b,oo,he,hg,hb,hV,hl,hw,hx,hsol⟩:=kF hc.rel hq' hat'
      obtain⟨hat2,_⟩:=hs.atP hat
      obtain⟨e',he',hg'⟩:=lX hat2
      rw[he] at he'
      simp only[SV.dat.injEq] at he'
      subst he'
      rw[rD hg] at hg'
      have hpair:∃ x y,d0.t=.pair x y:=by
       obtain⟨t0,x0,f0⟩:=d0
       cases t0<;>cases i<;>simp only[zG,yJ,reduceCtorEq] at hg'<;>exact⟨_,_,rfl⟩
      obtain⟨tx,ty,hpair⟩:=hpair
      rw[hpair] at hta
      obtain⟨fs,hfs,hch⟩:=A2p (hta.symm:tyN E.P (7+1) t=_)
      rw[← hpair] at hch
      obtain⟨fl,h1,h2,h3,h4,h5⟩:=Al2 (w:=w) (b:=b) (o:=oo) hch hg'
      have ea:A3o gv (q.1,q.2++zG i)=A3o g (q.1,q.2++zG i):=by simp[A3o,hr]
      rw[ea]
      have hz':d.t.size≠0:=fun e=>by rw[e] at hz;cases hz
      refine AY4 (d:=d) hc he hV hl (by rw[mY hw,h4]) (pR hg hb h5) (by rw[rD hg];exact hg') ?_ ho ?_
      ·rcases hgn with h|h
       ·exact .inl (AT1 h AZ0)
       ·exact .inr (uE h)
      ·simp only[execOp,hm,zH hx,Sem.run_bind,A2K hfs h1 (d:=6) h2 hz',Result.andThen_ok,Sem.run_pure]
       simp
    ·cases hk
   ·cases hk
  ·cases hk
 ·cases hk
theorem Af3 {t e:TypeId} {d:Nat} {τ:Ty} {k:IntKind} {n:Int} {b oo len cap:Nat} (he:P.underlying t=some (.slice e)) (ht:tyN P (d+1) e=some τ) (h1:zA n=true) (h2:n.toNat < len):
  (Bk t (.slice (some ⟨b,oo,none⟩) len cap) (.int k n)).run P w=.ok (.pointer (some ⟨b,oo+n.toNat * τ.size,none⟩)) w:=by
 simp only[zA,Ar] at h1
 simp only[Bk,asIntOf,Sem.run_bind,Sem.run_pure,Result.andThen_ok,zC he]
 rw[AE ⟨h1,by omega⟩]
 simp only[Sem.run_bind,uF ht,Result.andThen_ok,Sem.run_pure,mL]
theorem Ac0 {t e:TypeId} {d:Nat} {τ:Ty} {k:IntKind} {n:Int} {b oo len:Nat} (he:P.underlying t=some (.array len e)) (ht:tyN P (d+1) e=some τ) (h1:zA n=true) (h2:n.toNat < len):
  (Bk t (.pointer (some ⟨b,oo,none⟩)) (.int k n)).run P w=.ok (.pointer (some ⟨b,oo+n.toNat * τ.size,none⟩)) w:=by
 simp only[zA,Ar] at h1
 simp only[Bk,asIntOf,Sem.run_bind,Sem.run_pure,Result.andThen_ok,zC he,Bt]
 rw[AE ⟨h1,by omega⟩]
 simp only[Sem.run_bind,uF ht,Result.andThen_ok,Sem.run_pure,mL]
theorem AD4 {ρ:Operand→Value} {t:TypeId} {x i:Operand} {val:Value} (ho:o.op=.indexAddr t x i) (hr:(Bk t (ρ x) (ρ i)).run P w=.ok val w):(execOp ρ o).run P w=.ok (.value val) w:=by
 simp only[execOp,ho,Sem.run_bind,hr,Result.andThen_ok,Sem.run_pure]
theorem A3B {f:Fl} (h:f.whole=true):f.base≠.gone:=fR h
theorem AU9 {t:TypeId} {x i:Operand} (hc:Ctx E.P H S β a w o g) (hs:Sub gv g) (hm:o.op=.indexAddr t x i)
  (hk:iA gv o (E.ty t) x i some=some us):yF E.P H S β a w o (g.ups us):=by
 unfold iA at hk
 split at hk
 ·rename_i τ k n ht hi
  have ei:=zH (gS hc.rel (hs.sv hi (by simp)) kA)
  split at hk
  ·rename_i q hq
   split at hk
   ·rename_i τ' xs f hat
    split at hk
    ·rename_i hcond
     simp only[Ad,Ar,A8] at hcond
     obtain⟨⟨rfl,hew⟩,hgn⟩:=hcond
     simp only[Aj] at hk
     split at hk
     ·rename_i h1
      split at hk
      ·rename_i h2
       obtain⟨dd,ho,rfl⟩:=yG hk
       simp only[B6] at h2
       obtain⟨hq',hat',hr⟩:=aP hs hq hat
       obtain⟨e,cr,L,c,he,hg,hb,hV,hl,hvr,hw,hcc,hvp,hx⟩:=eZ hc.rel hq' hat' (uE hgn)
       obtain⟨el,hel,htl⟩:=AN0 ht
       obtain⟨b,oo,cs,m,cap,rfl,him,hsb,hB,hz,hv⟩:=Ao5 (A3B hew) hvp (sZ (z:=τ'.dflt) h2)
       have ea:A3o gv (q.1,q.2++[.elm (A0 n)])=A3o g (q.1,q.2++[.elm (A0 n)]):=by simp[A3o,hr]
       rw[ea]
       have hlen:m=Ag xs:=by
        have h3:=hvp
        simp only[zN] at h3
        replace h3:=h3.2
        cases hfb:Fl.base f with
        | own e2=>rw[hfb] at h3;obtain⟨ad,cap',e5,_⟩:=h3;simp only[Ak,AM,Bg] at e5;exact e5.2.1
        | gone=>exact absurd hfb (uE hgn)
        | _=>rw[hfb] at h3;simp only[Rd] at h3;obtain⟨ad,cap',e5,_⟩:=h3;simp only[Ak,AM,Bg] at e5;exact e5.2.1
       have hg2:yJ (q.2++[.elm (A0 n)]) e.t e.f e.x=some ⟨τ',A9 xs (A0 n) τ'.dflt,f.e⟩:=by rw[rD hg];rfl
       refine AY4 (d:=⟨τ',A9 xs (A0 n) τ'.dflt,f.e⟩) (b:=b) (oo:=oo+A0 n * τ'.size) hc he hV hl ?_ (pR hg hb (by simp only[inB];exact⟨h2,trivial⟩)) hg2 (.inr (A3B hew)) ho (AD4 hm ?_)
       ·rw[mY hw]
        simp only[Ty.size] at hcc
        simp only[vF,xJ,hcc,him,Az]
       ·rw[zH hx,ei]
        exact Af3 hel htl h1 (by omega)
      ·cases hk
     ·cases hk
    ·cases hk
   ·cases hk
  ·cases hk
 ·rename_i m τ k n ht hi
  have ei:=zH (gS hc.rel (hs.sv hi (by simp)) kA)
  split at hk
  ·rename_i q hq
   split at hk
   ·rename_i n' τ' xs f hat
    split at hk
    ·rename_i hcond
     simp only[Ad,Ar,A8,Ba] at hcond
     obtain⟨⟨rfl,rfl⟩,hgn⟩:=hcond
     simp only[Aj] at hk
     split at hk
     ·rename_i h1
      split at hk
      ·rename_i h2
       obtain⟨dd,ho,rfl⟩:=yG hk
       simp only[B6] at h2
       obtain⟨hq',hat',hr⟩:=iT hs hq hat
       obtain⟨e,cr,b,oo,he,hg,hb,hV,hl,hw,hx,hsol⟩:=kF hc.rel hq' hat'
       obtain⟨el,hel,htl⟩:=Ab5 ht
       have ea:A3o gv (q.1,q.2++[.idx (A0 n)])=A3o g (q.1,q.2++[.idx (A0 n)]):=by simp[A3o,hr]
       rw[ea]
       have hg2:yJ (q.2++[.idx (A0 n)]) e.t e.f e.x=some ⟨τ',A9 xs (A0 n) τ'.dflt,f.a⟩:=by rw[rD hg];rfl
       refine AY4 (d:=⟨τ',A9 xs (A0 n) τ'.dflt,f.a⟩) (b:=b) (oo:=oo+A0 n * τ'.size) hc he hV hl ?_ (pR hg hb (by simp only[inB];exact⟨h2,trivial⟩)) hg2 ?_ ho (AD4 hm ?_)
       ·rw[mY hw]
        simp only[vF,xJ,h2,Az,dO]
       ·rcases hgn with h|h
        ·exact .inl (AT1 h rfl)
        ·exact .inr (uE h)
       ·rw[zH hx,ei]
        exact Ac0 hel htl h1 h2
      ·cases hk
     ·cases hk
    ·cases hk
   ·cases hk
  ·cases hk
 ·cases hk
end
end Go.Rf

end
section
namespace Go.Rf
set_option linter.unusedSectionVars false
variable [T:Laid]
section
variable {P:Program} {H:Nat→Option (List Value)} {N:Nat} {g g' σ:zW} {V V':Nat→Option Value} {w w':World} {S S':Nat→Prop} {β β':Key→Option Nat} {a:Act} {o:Oper}
variable {E:Env} {gv:zW} {us:List Up}
theorem dR:∀ {p:List PS} {t:Ty} {f:Fl} {x:t.D} {d:Dat} {y:Fl × t.D} {k ko:Key} {L:Loc} {c:List Value} {t':Ty} {b o:Nat},
  oE p t f x d=some y→inB p t x→zD w t.size L=some c→zN S β H w k t f x c→vF w t L p=some (t',.mem b o) →
  (∀ b' o',L=.mem b' o'→β ko=some b'∧∃ q cs,AC1 q w b' cs) →
  β (yV k ko p)=some b∧∃ q cs,AC1 q w b cs∧o+t'.size≤cs.size
 | [],t,f,x,d,y,k,ko,L,c,t',b,o,_,_,hc,_,hw,hL=>by
  simp only[vF,Aa,Af] at hw
  obtain⟨rfl,rfl⟩:=hw
  obtain⟨h1,q0,cs,h2⟩:=hL _ _ rfl
  exact⟨h1,q0,cs,h2,(mV hc h2.blk).2⟩
 | .fst :: p,.pair s u,f,x,d,y,k,ko,L,c,t',b,o,hm,hi,hc,hv,hw,hL=>by
  simp only[oE] at hm
  cases hm':oE p s f.l x.1 d with
  | none=>simp[hm'] at hm
  | some z=>
   have h':=(wJ hv).1
   rw[qO] at h'
   simp only[vF,xJ] at hw
   simp only[yV]
   refine dR hm' (by simpa[inB] using hi) (zU (i:=0) (m:=s.size) hc (by simp[Ty.size])) h' hw (fun b' o' e=>?_)
   cases L with
   | reg _=>simp[dO] at e
   | mem b2 o2=>simp only[dO,Loc.mem.injEq] at e;rw[← e.1];exact hL _ _ rfl
 | .snd :: p,.pair s u,f,x,d,y,k,ko,L,c,t',b,o,hm,hi,hc,hv,hw,hL=>by
  simp only[oE] at hm
  cases hm':oE p u f.r x.2 d with
  | none=>simp[hm'] at hm
  | some z=>
   have h':=(wJ hv).2
   have hl:=zO hv
   rw[qS (by simpa[Ty.size] using hl)] at h'
   simp only[vF,xJ] at hw
   simp only[yV]
   refine dR hm' (by simpa[inB] using hi) (zU (i:=s.size) (m:=u.size) hc (by simp[Ty.size])) h' hw (fun b' o' e=>?_)
   cases L with
   | reg _=>simp[dO] at e
   | mem b2 o2=>simp only[dO,Loc.mem.injEq] at e;rw[← e.1];exact hL _ _ rfl
 | .idx i :: p,.arr n t,f,x,d,y,k,ko,L,c,t',b,o,hm,hi,hc,hv,hw,hL=>by
  simp only[oE] at hm
  cases hm':oE p t f.a (A9 x i t.dflt) d with
  | none=>simp[hm'] at hm
  | some z=>
   simp only[hm',Option.bind_some] at hm
   split at hm
   ·rename_i hcond
    simp only[inB] at hi
    simp only[Ad] at hcond
    obtain⟨hx,hcl,h'⟩:=mU (fR hcond.1) hv
    have hlt:(i+1) * t.size≤n * t.size:=Ac _ hi.1
    rw[Ah] at hlt
    simp only[vF,xJ,hi.1,Az] at hw
    simp only[yV]
    refine dR hm' hi.2 (zU (i:=i * t.size) (m:=t.size) hc (by simp only[Ty.size];omega)) (h' i _ (sZ (by omega))) hw (fun b' o' e=>?_)
    cases L with
    | reg _=>simp[dO] at e
    | mem b2 o2=>simp only[dO,Loc.mem.injEq] at e;rw[← e.1];exact hL _ _ rfl
   ·cases hm
 | .der :: p,.ptr t,f,x,d,y,k,ko,L,c,t',b,o,hm,hi,hc,hv,hw,hL=>by
  have main:∀ e,f.base=.own e→oE p t e x d≠none→β (yV (k++[0]) k p)=some b∧∃ q cs,AC1 q w b cs∧o+t'.size≤cs.size:=by
   intro e hf hm'
   cases hm'':oE p t e x d with
   | none=>exact absurd hm'' hm'
   | some z=>
    simp only[zN] at hv
    replace hv:=hv.2
    rw[hf] at hv
    obtain⟨b1,cs,rfl,hk,ho,hz,hv⟩:=hv
    simp only[Ty.size] at hc
    simp only[vF,xJ,hc] at hw
    have hc':=zJ (o:=0) (n:=t.size) ho.blk (by omega)
    have:win cs.toList 0 t.size=cs.toList:=by rw[← hz,← A'];exact fG _
    rw[this] at hc'
    exact dR hm'' (by simpa[inB] using hi) hc' hv hw (fun b' o' e=>by simp only[Loc.mem.injEq] at e;rw[← e.1];exact⟨hk,_,cs,ho⟩)
  simp only[yV]
  cases f with
  | own e=>exact main e rfl (fun e=>by simp[oE,e] at hm)
  | pin j g=>cases g with
   | own e=>exact main e rfl (fun e=>by simp[oE,e] at hm)
   | _=>simp[oE] at hm
  | _=>simp[oE] at hm
 | .elm i :: p,.sl t,f,x,d,y,k,ko,L,c,t',b,o,hm,hi,hc,hv,hw,hL=>by
  simp only[inB] at hi
  have main:∀ e,f.base=.own e→oE p t e (A9 x i t.dflt) d≠none→β (yV (k++[i]) k p)=some b∧∃ q cs,AC1 q w b cs∧o+t'.size≤cs.size:=by
   intro e hf hm'
   cases hm'':oE p t e (A9 x i t.dflt) d with
   | none=>exact absurd hm'' hm'
   | some z=>
    simp only[zN] at hv
    replace hv:=hv.2
    rw[hf] at hv
    obtain⟨ad,cap,rfl,hlc,hv⟩:=hv
    rcases hv with hv|⟨b1,o1,cs,rfl,hk,ho,hz,hv⟩
    ·have:=hi.1;omega
    ·simp only[Ty.size] at hc
     simp only[vF,xJ,hc,hi.1,Az] at hw
     have hlt:(i+1) * t.size≤cap * t.size:=Ac _ (by have:=hi.1;omega)
     rw[Ah] at hlt
     have hc':=zJ (o:=o1+i * t.size) (n:=t.size) ho.blk (by omega)
     exact dR hm'' hi.2 hc' (hv i _ (sZ hi.1)) hw (fun b' o' e=>by simp only[Loc.mem.injEq] at e;rw[← e.1];exact⟨hk,_,cs,ho⟩)
  simp only[yV]
  cases f with
  | own e=>exact main e rfl (fun e=>by simp[oE,e] at hm)
  | pin j g=>cases g with
   | own e=>exact main e rfl (fun e=>by simp[oE,e] at hm)
   | _=>simp[oE] at hm
  | _=>simp[oE] at hm
theorem jZ:∀ {p:List PS} {k ko:Key},ko.length < k.length→(yV k ko p).length < (k++xA p).length
 | [],k,ko,h=>by simpa[yV,xA] using h
 | .fst :: p,k,ko,h=>by
  have:=jZ (p:=p) (k:=k++[0]) (ko:=ko) (by simp;omega)
  simpa[yV,xA] using this
 | .snd :: p,k,ko,h=>by
  have:=jZ (p:=p) (k:=k++[1]) (ko:=ko) (by simp;omega)
  simpa[yV,xA] using this
 | .idx i :: p,k,ko,h=>by
  have:=jZ (p:=p) (k:=k++[i]) (ko:=ko) (by simp;omega)
  simpa[yV,xA] using this
 | .der :: p,k,ko,h=>by
  have:=jZ (p:=p) (k:=k++[0]) (ko:=k) (by simp)
  simpa[yV,xA] using this
 | .elm i :: p,k,ko,h=>by
  have:=jZ (p:=p) (k:=k++[i]) (ko:=k) (by simp)
  simpa[yV,xA] using this
theorem Ap7 {p:List PS} {t t':Ty} {c:List Value} {b o:Nat} (h:vF w t (.reg c) p=some (t',.mem b o)):jumps p=true:=by
 cases hj:jumps p with
 | true=>rfl
 | false=>have:=pC hj h;simp at this
open Classical in
theorem Rel.store {r:Nat} {p:List PS} {e d:Dat} {f2:Fl} {x2:e.t.D} {cr cd:List Value} {t':Ty} {b₀ o₀:Nat} (h:Rel H N g V w S β) (he:(g r).sv=.dat e) (hm:oE p e.t e.f e.x d=some (f2,x2)) (hb:inB p e.t e.x)
  (hV:V r=some (zV e.t cr)) (hl:cr.length=e.t.size) (hw:vF w e.t (.reg cr) p=some (t',.mem b₀ o₀)) (ht:t'.size=d.t.size)
  (hs:Sane w S' β') (hSS:∀ b,S b→S' b) (hβ1:∀ j s b,j≠r→(g j).sv≠.dead→β (j :: s)=some b→β' (j :: s)=some b) (hβ2:∀ s b,¬ xA p <+: s→β (r :: s)=some b→β' (r :: s)=some b)
  (hd:zN S' β' H w (r :: xA p) d.t d.f d.x cd) (hchg:Chg w w' b₀ o₀ cd) (hsz:w'.heap.size=w.heap.size):
  Rel H N (g.up (.mod r (.dat ⟨e.t,x2,f2⟩))) V w' S' β':=by
 have hj:=Ap7 hw
 obtain⟨c,hv,hV2⟩:=h.dat he
 have:=uA (Ap (hV2.symm.trans hV)) (zO hv) hl
 subst this
 have hcells:zD w e.t.size (.reg c)=some c:=by simp[zD,hl]
 obtain⟨hown,cs,hB,_⟩:=dR (k:=[r]) (ko:=[]) hm hb hcells hv hw (by simp)
 have hlen:=jZ (p:=p) (k:=[r]) (ko:=[]) (by simp)
 obtain⟨s0,hs0⟩:=rE (p:=p) (k:=[r]) (ko:=[]) hj
 have hnp:¬ (r :: xA p) <+: yV [r] [] p:=fun hp=>by have:=hp.length_le;simp at this hlen;omega
 have hown':β' (yV [r] [] p)=some b₀:=by
  rw[hs0] at hown hnp ⊢
  simp only[A5,Bc] at hown hnp ⊢
  exact hβ2 s0 b₀ (fun hp=>hnp ((BF r).2 hp)) hown
 have hSb:¬ S' b₀:=hs.sep _ _ hown'
 let β0:Key→Option Nat:=fun key=>if (r :: xA p) <+: key then β key else β' key
 have hv0:zN S' β0 H w [r] e.t e.f e.x c:=zI (fun b hb=>⟨hSS b hb,rfl⟩) (fun s b hb=>⟨by
  simp only[A5,Bc] at hb ⊢
  show (if _ then _ else _)=_
  split
  ·exact hb
  ·rename_i hnp';exact hβ2 s b (fun hp=>hnp' ((BF r).2 hp)) hb,rfl⟩) hv
 obtain⟨c2,g1,g2,g3⟩:=AB2 (S:=S') (β:=β0) (β':=β') (H:=H) (k:=[r]) (ko:=[]) (cd:=cd) hm hb hcells hv0 hw ht (by simp) (by simp)
  (fun key hk=>by show _=(if _ then _ else _);rw[As (by simpa using hk)])
  (fun key hk=>by
   have hk:(if (r :: xA p) <+: key then β key else β' key)=some b₀:=hk
   split at hk
   ·exact h.sane.inj _ _ _ hk hown
   ·exact hs.inj _ _ _ hk hown')
  (fun key hk=>hs.inj _ _ _ hk hown') hSb hchg (by simpa using hd)
 have:=g2 hj
 subst this
 have hne:∀ b,S b→b≠b₀:=fun b hb e=>hSb (e▸hSS b hb)
 refine h.mod he rfl ⟨hs.inj,hs.sep,fun k b hk=>by rw[hsz];exact hs.live k b hk,fun b hk=>by rw[hsz];exact hs.liveS b hk,hs.tabs fun b hb=>⟨hb,hchg.other b (fun e=>hSb (e▸hb))⟩⟩ (fun b hb=>⟨hSS b hb,hchg.other b (hne b hb)⟩)
  (fun j s b hjr ha hb=>⟨hβ1 j s b hjr ha hb,hchg.other b (fun e=>?_)⟩) ⟨c2,g3,hV⟩
 subst e
 have:=h.sane.inj _ _ _ hb hown
 rw[hs0] at this
 simp at this
 exact hjr this.1
theorem Step.store {b₀ o₀:Nat} {cd:List Value} {key:Key} (hk:β key=some b₀) (hchg:Chg w w' b₀ o₀ cd) (hsz:w'.heap.size=w.heap.size):Step w S β w' S β where
 size:=by omega
 old b hb hnot:=hchg.other b (fun e=>hnot key (e▸hk))
 new k b hb:=.inl ⟨k,hb⟩
 keepS _ hb:=hb
 newS _ hb:=.inl hb
 out:=hchg.out
def BN9 (S:Nat→Prop) (β:Key→Option Nat) (k:Key):Nat→Prop:=fun b=>S b∨∃ s,β (k++s)=some b
def A9G (β:Key→Option Nat) (k:Key):Key→Option Nat:=fun k'=>match sA k k' with|some _=>none|none=>β k'
theorem eC {k k':Key} {b:Nat} (h:A9G β k k'=some b):sA k k'=none∧β k'=some b:=by
 unfold A9G at h;split at h
 ·cases h
 ·rename_i e;exact⟨e,h⟩
theorem Sane.cut (h:Sane w S β) (k:Key):Sane w (BN9 S β k) (A9G β k) where
 tab:=h.tabs fun b hb=>⟨.inl hb,rfl⟩
 inj k1 k2 b h1 h2:=h.inj _ _ _ (eC h1).2 (eC h2).2
 sep k1 b h1 h2:=by
  obtain⟨e,h1⟩:=eC h1
  rcases h2 with h2|⟨s,h2⟩
  ·exact h.sep _ _ h1 h2
  ·exact iI e s (h.inj _ _ _ h1 h2)
 live k1 b h1:=h.live _ _ (eC h1).2
 liveS b hb:=hb.elim (h.liveS b) fun ⟨s,h'⟩=>h.live _ _ h'
theorem Step.cut (k:Key):Step w S β w (BN9 S β k) (A9G β k) where
 size:=Al _
 old _ _ _:=rfl
 new _ _ hb:=.inl ⟨_,(eC hb).2⟩
 keepS _ hb:=.inl hb
 newS _ hb:=hb.elim .inl fun ⟨s,h⟩=>.inr (.inl ⟨_,h⟩)
 out:=.rfl'
theorem A7j {k:Key} {t:Ty} {f:Fl} {x:t.D} {c:List Value} (hw:f.whole=true) (h:zN S β H w k t f x c):zN (BN9 S β k) (A9G β k) H w k t .sh x c:=
 yO.2 (wY hw (fun _=>.inl) (fun s _ hb=>.inr ⟨s,hb⟩) h)
theorem dW:∀ {p:List PS} {t:Ty} {f:Fl} {x:t.D} {d d0:Dat} {y:Fl × t.D},oE p t f x d=some y→yJ p t f x=some d0→d0.t=d.t
 | [],t,f,x,d,d0,y,hm,hg=>by
  simp only[yJ,Aa] at hg;subst hg
  simp only[oE,Ab] at hm
  obtain⟨z,hz,_⟩:=hm
  exact (wX hz).1.symm
 | .fst :: p,.pair a b,f,x,d,d0,y,hm,hg=>by
  simp only[oE,Ab] at hm;obtain⟨z,hz,_⟩:=hm
  simp only[yJ] at hg;exact dW hz hg
 | .snd :: p,.pair a b,f,x,d,d0,y,hm,hg=>by
  simp only[oE,Ab] at hm;obtain⟨z,hz,_⟩:=hm
  simp only[yJ] at hg;exact dW hz hg
 | .idx i :: p,.arr n t,f,x,d,d0,y,hm,hg=>by
  simp only[oE,Aq] at hm;obtain⟨z,hz,_⟩:=hm
  simp only[yJ] at hg;exact dW hz hg
 | .der :: p,.ptr t,f,x,d,d0,y,hm,hg=>by
  simp only[yJ] at hg
  cases f with
  | own e=>simp only[oE,Ab] at hm;obtain⟨z,hz,_⟩:=hm;exact dW hz hg
  | pin j g=>cases g with
   | own e=>simp only[oE,Ab] at hm;obtain⟨z,hz,_⟩:=hm;exact dW hz hg
   | _=>simp[oE] at hm
  | _=>simp[oE] at hm
 | .elm i :: p,.sl t,f,x,d,d0,y,hm,hg=>by
  simp only[yJ] at hg
  cases f with
  | own e=>simp only[oE,Aq] at hm;obtain⟨z,hz,_⟩:=hm;exact dW hz hg
  | pin j g=>cases g with
   | own e=>simp only[oE,Aq] at hm;obtain⟨z,hz,_⟩:=hm;exact dW hz hg
   | _=>simp[oE] at hm
  | _=>simp[oE] at hm
theorem A3x {mv:Bool} {t:Option Ty} {x:Operand} {d:Dat} {us:List Up} {r:Nat} {e:Dat} (ht:take g mv t x (sv g x)=some (d,us)) (he:(g r).sv=.dat e):
  ((g.ups us) r).sv=.dead∨∃ f,((g.ups us) r).sv=.dat ⟨e.t,e.x,f⟩:=by
 have same:((g.ups []) r).sv=.dead∨∃ f,((g.ups []) r).sv=.dat ⟨e.t,e.x,f⟩:=.inr ⟨e.f,he⟩
 have dead:∀ {g1:zW} {s:Nat},((g1 r).sv=.dead∨∃ f,(g1 r).sv=.dat ⟨e.t,e.x,f⟩)→((g1.up (.put s .dead)) r).sv=.dead∨∃ f,((g1.up (.put s .dead)) r).sv=.dat ⟨e.t,e.x,f⟩:=by
  intro g1 s h
  by_cases hr:r=s
  ·subst hr;left;rw[vD]
  ·rw[rF hr];exact h
 have modc:∀ {q:Nat} {e':Dat} {f:Fl},(g q).sv=.dat e'→((g.up (.mod q (.dat ⟨e'.t,e'.x,f⟩))) r).sv=.dead∨∃ f',((g.up (.mod q (.dat ⟨e'.t,e'.x,f⟩))) r).sv=.dat ⟨e.t,e.x,f'⟩:=by
  intro q e' f hq
  by_cases hr:r=q
  ·subst hr
   rw[he] at hq
   simp only[SV.dat.injEq] at hq
   subst hq
   right
   exact⟨f,by rw[show g.up (.mod r (.dat ⟨e.t,e.x,f⟩)) r=_ from pF (u:=.mod r _)];rfl⟩
  ·rw[sQ (u:=.mod q _) hr];exact same
 have pubc:∀ {q:Nat} {e':Dat} {f:Fl},(g q).sv=.dat e'→((g.up (.pub q (.dat ⟨e'.t,e'.x,f⟩))) r).sv=.dead∨∃ f',((g.up (.pub q (.dat ⟨e'.t,e'.x,f⟩))) r).sv=.dat ⟨e.t,e.x,f'⟩:=by
  intro q e' f hq
  by_cases hr:r=q
  ·subst hr
   rw[he] at hq
   simp only[SV.dat.injEq] at hq
   subst hq
   right
   exact⟨f,by rw[show g.up (.pub r (.dat ⟨e.t,e.x,f⟩)) r=_ from pF (u:=.pub r _)];rfl⟩
  ·rw[sQ (u:=.pub q _) hr];exact same
 cases hv:sv g x with
 | dead=>rw[hv] at ht;simp[take] at ht
 | und=>rw[hv] at ht;simp[take] at ht
 | unk=>rw[hv] at ht;simp[take] at ht
 | tup d=>rw[hv] at ht;simp[take] at ht
 | adr _ _ _ _=>rw[hv] at ht;simp[take] at ht
 | nils=>
  rw[hv] at ht
  simp only[take] at ht
  split at ht
  ·simp only[Aa,Af] at ht;rw[← ht.2];exact same
  ·cases ht
 | clo f rs=>
  rw[hv] at ht
  cases rs with
  | nil=>simp only[take,Aa,Af] at ht;rw[← ht.2];exact same
  | cons a rs=>simp[take] at ht
 | dat e=>
  rw[hv] at ht
  simp only[take] at ht
  split at ht
  ·simp only[Aa,Af] at ht;rw[← ht.2];exact same
  ·split at ht
   ·split at ht
    ·simp only[Aa,Af] at ht;rw[← ht.2]
     exact dead same
    ·cases ht
   ·cases ht
 | als r p c s=>
  rw[hv] at ht
  simp only[take] at ht
  split at ht
  ·split at ht
   ·rename_i e he
    split at ht
    ·split at ht
     ·simp only[Aa,Af] at ht;rw[← ht.2];exact same
     ·split at ht
      ·split at ht<;>simp only[Aa,Af] at ht<;>rw[← ht.2]
       ·exact modc he
       ·exact pubc he
      ·cases ht
    ·cases ht
   ·cases ht
  ·cases ht
 | pend r p c s u e=>
  rw[hv] at ht
  simp only[take] at ht
  split at ht
  ·rename_i j
   split at ht
   ·split at ht
    ·rename_i e' he
     simp only[Aa,Af] at ht;rw[← ht.2]
     exact dead (modc he)
    ·cases ht
   ·cases ht
  ·cases ht
end
end Go.Rf

end
section
namespace Go.Rf
set_option linter.unusedSectionVars false
variable [T:Laid]
section
variable {P:Program} {H:Nat→Option (List Value)} {N:Nat} {g g' σ:zW} {V V':Nat→Option Value} {w w':World} {S S':Nat→Prop} {β β':Key→Option Nat} {a:Act} {o:Oper}
variable {E:Env} {gv:zW} {us:List Up}
theorem Step.at (h:Step w S β w S' β') (hz:w'.heap.size=w.heap.size):Step w' S β w' S' β' where
 size:=Al _
 old _ _ _:=rfl
 new k b hb:=by rw[hz];exact h.new k b hb
 keepS:=h.keepS
 newS b hb:=by rw[hz];exact h.newS b hb
 out:=.rfl'
theorem A0l {q:Pl} {d:Dat} {u:Up} (h:A3d g q d=some u):∃ e d' y,(g q.1).sv=.dat e∧oE q.2 e.t e.f e.x d'=some y∧u=.mod q.1 (.dat ⟨e.t,y.2,y.1⟩)∧(d'=d∨(d.f.whole=true∧d'=⟨d.t,d.x,.sh⟩)):=by
 unfold A3d at h
 split at h
 ·rename_i e he
  split at h
  ·rename_i y hy
   simp only[Aa] at h
   exact⟨e,d,y,he,hy,h.symm,.inl rfl⟩
  ·split at h
   ·rename_i hw
    simp only[Ab] at h
    obtain⟨y,hy,rfl⟩:=h
    exact⟨e,_,y,he,hy,rfl,.inr ⟨hw,rfl⟩⟩
   ·cases h
 ·cases h
theorem AO4 {r:Nat} {p s:Key} (h:¬ p <+: s):sA (r :: p) (r :: s)=none:=by
 cases hst:sA (r :: p) (r :: s) with
 | none=>rfl
 | some s'=>
  have:=pU.1 hst
  simp only[A5,Ak,AS] at this
  exact absurd ⟨s',this.symm⟩ h
theorem Al0 {t:TypeId} {r:Nat} {p:List PS} {e d d':Dat} {y:Fl × e.t.D} {cr c:List Value} {t':Ty} {b₀ o₀:Nat} {β1:Key→Option Nat}
  (h:Rel H N g V w S β) (he:(g r).sv=.dat e) (hm:oE p e.t e.f e.x d'=some y) (hd':d'=d∨(d.f.whole=true∧d'=⟨d.t,d.x,.sh⟩)) (hwh:d.f.whole=true) (hb:inB p e.t e.x)
  (hV:V r=some (zV e.t cr)) (hl:cr.length=e.t.size) (hw:vF w e.t (.reg cr) p=some (t',.mem b₀ o₀)) (ht:t'=d.t) (hty:tyN P 8 t=some d.t)
  (hs:Sane w S β1) (hst:Step w S β w S β1) (hβ1:∀ j s b,j≠r→(g j).sv≠.dead→β (j :: s)=some b→β1 (j :: s)=some b) (hβ2:∀ s b,¬ xA p <+: s→β (r :: s)=some b→β1 (r :: s)=some b)
  (hd:zN S β1 H w (r :: xA p) d.t d.f d.x c):
  ∃ w' S2 β2,(storeVar t ⟨b₀,o₀,none⟩ (zV d.t c)).run P w=.ok () w'∧Rel H N (g.up (.mod r (.dat ⟨e.t,y.2,y.1⟩))) V w' S2 β2∧Step w S β w' S2 β2:=by
 obtain⟨c1,hv,hV2⟩:=h.dat he
 have:=uA (Ap (hV2.symm.trans hV)) (zO hv) hl
 subst this
 have hcells:zD w e.t.size (.reg c1)=some c1:=by simp[zD,hl]
 obtain⟨hown,q0,cs,hB,hz⟩:=dR (k:=[r]) (ko:=[]) hm hb hcells hv hw (by simp)
 subst ht
 have hlen:=zO hd
 obtain⟨w',hrun,hchg,hsz⟩:=Ar8 (P:=P) hty hB hz hlen (Ap6 hwh hd)
 rcases hd' with rfl|⟨_,rfl⟩
 ·exact⟨w',S,β1,hrun,h.store he hm hb hV hl hw rfl hs (fun _ h=>h) hβ1 hβ2 hd hchg hsz,(Step.store hown hchg hsz).trans (hst.at hsz)⟩
 ·refine⟨w',BN9 S β1 (r :: xA p),A9G β1 (r :: xA p),hrun,h.store he hm hb hV hl hw rfl (hs.cut _) (fun _ h=>.inl h) (fun j s b hj ha hb=>?_) (fun s b hs hb=>?_) (A7j hwh hd) hchg hsz,
   (Step.store hown hchg hsz).trans ((hst.trans (.cut _)).at hsz)⟩
  ·have:=hβ1 j s b hj ha hb
   unfold A9G;rw[zZ hj];exact this
  ·have:=hβ2 s b hs hb
   unfold A9G;rw[AO4 hs];exact this
theorem Ak3 {ρ:Operand→Value} {t:TypeId} {x y:Operand} {ad:Addr} {v:Value} (ho:o.op=.store t x y) (hx:ρ x=.pointer (some ad)) (hy:ρ y=v) (hr:(storeVar t ad v).run P w=.ok () w'):(execOp ρ o).run P w=.ok .skip w':=by
 simp only[execOp,ho,hx,hy,Instr.storeAt,Bt,Sem.run_bind,Sem.run_pure,Result.andThen_ok,hr]
theorem Az8:∀ {p q:List PS} {cs:List Bool},Ah8 p q=some cs→(∀ c ∈ cs,c=true)→p=q
 | [],[],_,_,_=>rfl
 | [],_ :: _,_,h,_=>by simp[Ah8] at h
 | _ :: _,[],_,h,_=>by simp[Ah8] at h
 | a :: p,b :: q,cs,h,hc=>by
  simp only[Ah8] at h
  split at h
  ·rename_i l m hl hm
   simp only[Aa] at h;subst h
   have ih:=Az8 hm (fun c h=>hc c (by simp[h]))
   subst ih
   have:a=b:=by
    cases a<;>cases b<;>simp only[PS.eqc,reduceCtorEq,Aa] at hl<;>first
     | rfl
     | (subst hl;have:=hc _ (List.mem_append_left _ (List.mem_singleton.2 rfl));simp only[Ar] at this;rw[this])
   rw[this]
  ·cases h
theorem Ai6 {ρ:Type} {k:Option ρ} {v:ρ}:∀ {cs:List Bool},A1W cs k=some v→(∀ c ∈ cs,c=true)∧k=some v
 | [],h=>⟨by simp,h⟩
 | true :: l,h=>by
  obtain⟨h1,h2⟩:=Ai6 (cs:=l) h
  exact⟨by intro c hc;rcases AO.1 hc with rfl|hc;rfl;exact h1 c hc,h2⟩
 | false :: l,h=>by simp[A1W] at h
theorem A8n {mv:Bool} {t:Ty}:(Fl.ne mv t).whole=true:=by
 unfold Fl.ne;split
 ·assumption
 ·rfl
theorem AQ8 {mv:Bool} {t:Option Ty} {x:Operand} {d:Dat} {us:List Up} (ht:take g mv t x (sv g x)=some (d,us)):d.f.whole=true:=by
 cases hv:sv g x with
 | dead=>rw[hv] at ht;simp[take] at ht
 | und=>rw[hv] at ht;simp[take] at ht
 | unk=>rw[hv] at ht;simp[take] at ht
 | tup d=>rw[hv] at ht;simp[take] at ht
 | adr _ _ _ _=>rw[hv] at ht;simp[take] at ht
 | nils=>
  rw[hv] at ht
  simp only[take] at ht
  split at ht
  ·simp only[Aa,Af] at ht;rw[← ht.1]
   exact A8n
  ·cases ht
 | clo f rs=>
  rw[hv] at ht
  cases rs with
  | nil=>simp only[take,Aa,Af] at ht;rw[← ht.1];rfl
  | cons a rs=>simp[take] at ht
 | dat e=>
  rw[hv] at ht
  simp only[take] at ht
  split at ht
  ·rename_i hf
   simp only[Aa,Af] at ht;rw[← ht.1,wW hf];rfl
  ·split at ht
   ·rename_i hw
    split at ht
    ·simp only[Aa,Af] at ht;rw[← ht.1];exact hw
    ·cases ht
   ·cases ht
 | als r p c s=>
  rw[hv] at ht
  simp only[take] at ht
  split at ht
  ·split at ht
   ·split at ht
    ·split at ht
     ·rename_i hf
      simp only[Aa,Af] at ht;rw[← ht.1,wW hf];rfl
     ·split at ht
      ·rename_i hw
       split at ht<;>simp only[Aa,Af] at ht<;>rw[← ht.1]
       ·exact hw
       ·rfl
      ·cases ht
    ·cases ht
   ·cases ht
  ·cases ht
 | pend r p c s u e=>
  rw[hv] at ht
  simp only[take] at ht
  split at ht
  ·split at ht
   ·rename_i hok
    split at ht
    ·simp only[Aa,Af] at ht;rw[← ht.1]
     simp only[Ad] at hok
     exact hok.1.2
    ·cases ht
   ·cases ht
  ·cases ht
theorem A2j:a.put none undef=a:=rfl
theorem Al6 {mv:Bool} {t:TypeId} {x y:Operand} {q:Pl} {d d0:Dat} {us:List Up} {u:Up} (hc:Ctx E.P H S β a w o g) (hs:Sub gv g) (ho:o.op=.store t x y) (hdst:o.dst=none)
  (hq:hP gv x (sv gv x)=some q) (hat:atP gv q.1 q.2=some d0) (hty:E.ty t=some d0.t) {tt:Option Ty} (ht:take gv mv tt y (sv gv y)=some (d,us)) (hu:A3d (gv.ups us) q d=some u):yF E.P H S β a w o (g.ups (us++[u])):=by
 obtain⟨ht',hs'⟩:=fN hs ht
 obtain⟨hq',hat',hr⟩:=iT hs hq hat
 obtain⟨e,cr,b,oo,he,hg,hb,hV,hl,hw,hx,_⟩:=kF hc.rel hq' hat'
 obtain⟨S1,β1,c,h1,h2,h3,h4⟩:=jY hc.rel ht' (n:=a.tmps.size) (hc.dead _ (Al _)) (Al _)
 obtain⟨e1,d',yy,he1,hm,rfl,hd'⟩:=A0l hu
 have hq1:q.1 < a.tmps.size:=hc.dead.root he
 have he1':((g.ups us) q.1).sv=.dat e1:=by rw[hs'.get he1 (by simp)];exact he1
 have hee:∃ f,e1=⟨e.t,e.x,f⟩:=by
  rcases A3x ht' he with h|⟨f,h⟩
  ·rw[he1'] at h;cases h
  ·rw[he1'] at h;simp only[SV.dat.injEq] at h;exact⟨f,h⟩
 obtain⟨f,rfl⟩:=hee
 have hwh:=AQ8 ht'
 obtain⟨f1,hg1⟩:=pY (g:=f) hg
 have htyd:d0.t=d'.t:=dW (d0:=⟨d0.t,d0.x,f1⟩) hm hg1
 have htyd2:d0.t=d.t:=by
  rcases hd' with rfl|⟨_,rfl⟩<;>exact htyd
 let g1:zW:=(upN (g.ups us) a.tmps.size d).up (.put a.tmps.size .dead)
 have hk:Rel H a.tmps.size g1 (upd (qD a) a.tmps.size (zV d.t c)) w S1 β1:=h1.kill fun _ _=>rfl
 obtain⟨cc,hvr,hVn⟩:=h1.dat jA
 have hcc:cc=c:=by
  simp only[upd,Az] at hVn
  exact (uA (Ap hVn) h4 (zO hvr)).symm
 subst hcc
 have hg1r:(g1 q.1).sv=.dat ⟨e.t,e.x,f⟩:=by
  show (((upN (g.ups us) a.tmps.size d).up (.put a.tmps.size .dead)) q.1).sv=_
  rw[rF (by omega),kS (by omega)];exact he1'
 have hV1:(upd (qD a) a.tmps.size (zV d.t cc)) q.1=some (zV e.t cr):=by
  simp only[upd];rw[As (by omega)];exact hV
 have hn1:∀ j,(g1 j).sv≠.dead→j≠a.tmps.size:=fun j hj e'=>by
  subst e';exact hj (by show (((upN (g.ups us) a.tmps.size d).up (.put a.tmps.size .dead)) a.tmps.size).sv=_;rw[vD])
 obtain⟨w',S2,β2,hrun,hrel,hstep⟩:=Al0 (P:=E.P) (t:=t) hk hg1r hm hd' hwh hb hV1 hl hw htyd2 (by rw[← htyd2];exact hty) (hk.sane.rekey [a.tmps.size] (q.1 :: xA q.2)) (.rekey _ _)
  (fun j s b hj ha hbb=>by rw[xX (zZ hj) (zZ (hn1 j ha))];exact hbb)
  (fun s b hsp hbb=>by rw[xX (AO4 hsp) (zZ (by omega))];exact hbb) (qH hvr)
 intro K Q hK
 have hy:a.eval y=zV d.t cc:=zH h3
 refine A23 (Ak3 ho (zH hx) hy hrun) ?_
 rw[hdst,A2j]
 refine hK a w' S2 β2 rfl rfl ?_ (h2.trans hstep)
 rw[yQ]
 have hD:yD a.tmps.size (g.ups us):=hc.dead.ups fun u hu=>hc.dead.lt (iG ht' u hu)
 refine hrel.fin (fun i hi=>?_) (hD.up hq1) (fun i hi=>?_)
 ·show ((g.ups us).up _) i=(g1.up _) i
  have hgi:g1 i=(g.ups us) i:=by
   show ((upN (g.ups us) a.tmps.size d).up (.put a.tmps.size .dead)) i=_
   rw[rF (by omega),kS (by omega)]
  by_cases e':i=q.1
  ·subst e'
   rw[show (g.ups us).up (.mod q.1 _) q.1=_ from pF (u:=.mod q.1 _),show g1.up (.mod q.1 _) q.1=_ from pF (u:=.mod q.1 _)]
   show Up.on _ ((g.ups us) q.1)=Up.on _ (g1 q.1)
   rw[hgi]
  ·rw[sQ (u:=.mod q.1 _) e',sQ (u:=.mod q.1 _) e',hgi]
 ·simp only[upd];rw[As (by omega)]
theorem A2V {q:Pl} {t:Ty} (h:A0M g q=some t):∃ d,atP g q.1 q.2=some d∧d.t=t:=by
 unfold A0M at h
 simp only[Ab] at h
 exact h
theorem Av9 {mv:Bool} {t:TypeId} {x y:Operand} (hc:Ctx E.P H S β a w o g) (hs:Sub gv g) (hm:o.op=.store t x y)
  (hk:Ah1 gv mv o (E.ty t) x y some=some us):yF E.P H S β a w o (g.ups us):=by
 unfold Ah1 at hk
 split at hk
 ·rename_i q hdst hq
  split at hk
  ·rename_i hta
   simp only[Ad,Ar] at hta
   obtain⟨hta,hsome⟩:=hta
   obtain⟨τ,hτ⟩:=B3.1 hsome
   rw[hτ] at hta
   obtain⟨d0,hat,rfl⟩:=A2V hta
   split at hk
   ·rename_i j r p c s u d hy
    split at hk
    ·rename_i cs hcs
     split at hcs
     ·rename_i hcond
      simp only[Ad,A8,A3] at hcond
      obtain⟨⟨⟨hrq,hok⟩,hwh⟩,hjq⟩:=hcond
      split at hk
      ·rename_i uu hu
       obtain⟨hall,hk⟩:=Ai6 hk
       simp only[Aa] at hk;subst hk
       have hpq:=Az8 hcs hall
       have hjq:j≠q.1:=fun e=>by rw[e] at hjq;simp at hjq
       obtain⟨hq',hat',hr⟩:=iT hs hq hat
       obtain⟨e,cr,b,oo,he,hg,hb,hV,hl,hw,hx,_⟩:=kF hc.rel hq' hat'
       obtain⟨e1,d',yy,he1,hmm,rfl,hd'⟩:=A0l hu
       have:e1=e:=by rw[← hr,he] at he1;simp only[SV.dat.injEq] at he1;exact he1.symm
       subst this
       have htyd:d0.t=d'.t:=dW hmm hg
       have htyd2:d0.t=d.t:=by rcases hd' with rfl|⟨_,rfl⟩<;>exact htyd
       have hj:(g j).sv=.pend r p c s u d:=hs.sv hy (by simp)
       have hss:=hc.rel.slots j
       rw[hj] at hss
       obtain⟨h0,_,_,_,h4⟩:=hss
       subst hrq
       subst hpq
       obtain⟨_,β2,cc,hβ2,hvr,hVj⟩:=h4 (by rw[Sub.okU hr];exact hok) e1 he
       have hk1:Rel H a.tmps.size (g.up (.put j .dead)) (qD a) w S β:=hc.rel.kill fun _ _=>rfl
       have hd1:((g.up (.put j .dead)) j).sv=.dead:=by rw[vD]
       have hd2:((g.up (.put j .dead)) q.1).sv=.dat e1:=by rw[rF (B7 hjq)];exact he
       obtain⟨hsane,hkeep⟩:=hk1.repl hβ2 hd1 hd2
       obtain⟨w',S2,β3,hrun,hrel,hstep⟩:=Al0 (P:=E.P) (t:=t) hk1 hd2 hmm hd' hwh hb hV hl hw htyd2 (by rw[← htyd2];exact hτ) hsane (A3y.repl_or hβ2 hc.rel.sane).2 hkeep
        (fun s b hsp hbb=>by
         rcases hβ2 with rfl|⟨b2,hb2,rfl⟩
         ·exact hbb
         ·unfold repl
          rw[As (fun e3=>hsp (by simp only[Ak,AS] at e3;rw[e3];exact List.prefix_rfl)),As (by simp[B7 hjq])];exact hbb) hvr
       intro K Q hK
       have hjN:=hc.dead.lt (show (g j).sv≠.dead by rw[hj];simp)
       have hyv:a.eval (.tmp j)=zV d.t cc:=zH (x:=.tmp j) hVj
       refine A23 (Ak3 hm (zH hx) hyv hrun) ?_
       rw[hdst,A2j]
       exact hK a w' S2 β3 rfl rfl hrel hstep
      ·cases hk
     ·cases hcs
    ·rename_i hnone
     split at hk
     ·rename_i d' us' ht
      split at hk
      ·rename_i u' hu
       simp only[Aa] at hk;subst hk
       rw[← hy] at ht
       exact Al6 hc hs hm hdst hq hat hτ ht hu
      ·cases hk
     ·cases hk
   ·split at hk
    ·rename_i d' us' ht
     split at hk
     ·rename_i u' hu
      simp only[Aa] at hk;subst hk
      exact Al6 hc hs hm hdst hq hat hτ ht hu
     ·cases hk
    ·cases hk
  ·cases hk
 ·cases hk
theorem An2 {mv:Bool} {t:Option Ty} {x:Operand} (hc:Ctx P H S β a w o g) (hs:Sub gv g) (hm:o.op=.assign x)
  (hk:AO1 gv mv o t x some=some us):yF P H S β a w o (g.ups us):=by
 have hr:=A3H (P:=P) (w:=w) (a:=a) (.inr hm)
 have tk:∀ {d us dd},take gv mv t x (sv gv x)=some (d,us)→o.dst=some dd→yF P H S β a w o (g.ups (us++[.put dd (.dat d)])):=fun ht ho=>
  BA0 hc hs ht ho (fun v hv=>by rw[← hv];exact hr)
 unfold AO1 at hk
 split at hk
 ·obtain⟨dd,ho,rfl⟩:=yG hk
  exact AO2 hc.rel hc.dead ho (xF hc.opIn ho) hr trivial
 rename_i hnn;clear hnn
 split at hk
 ·rename_i r p c s hx
  obtain⟨dd,ho,rfl⟩:=yG hk
  obtain⟨i,rfl,hi⟩:=vZ (hs.sv hx (by simp)) (by simp) (by simp) (by simp)
  exact An7 hc hi (oK (hc.dead.lt (by rw[hi];simp))) ho hr
 ·rename_i f rs hx
  obtain⟨dd,ho,rfl⟩:=yG hk
  obtain⟨i,rfl,hi⟩:=vZ (hs.sv hx (by simp)) (by simp) (by simp) (by simp)
  have hss:=hc.rel.slots i
  rw[hi] at hss
  obtain⟨h1,h2⟩:=hss
  refine AO2 hc.rel hc.dead ho (xF hc.opIn ho) hr (A08 h1 ?_)
  rw[oK (hc.dead.lt (by rw[hi];simp))] at h2
  exact h2
 ·rename_i r p c s u d hx
  split at hk
  ·rename_i j e ho
   split at hk
   ·rename_i hcond
    simp only[Ad,A8,A3] at hcond
    obtain⟨⟨⟨⟨hre,hp⟩,hok⟩,hdat⟩,hje⟩:=hcond
    simp only[Aa] at hk;subst hk
    subst hre
    have hp:p=[]:=by simpa using hp
    subst hp
    have hje:j≠r:=fun e=>by rw[e] at hje;simp at hje
    have hj:(g j).sv=.pend r [] c s u d:=hs.sv hx (by simp)
    have hss:=hc.rel.slots j
    rw[hj] at hss
    obtain⟨h0,_,_,_,h4⟩:=hss
    have hd:=xF hc.opIn ho
    intro K Q hK
    have hk1:Rel H a.tmps.size (g.up (.put j .dead)) (qD a) w S β:=hc.rel.kill fun _ _=>rfl
    have hjN:=hc.dead.lt (show (g j).sv≠.dead by rw[hj];simp)
    unfold A8J at hdat
    split at hdat
    ·rename_i dr hdr
     have hrr:=hs.get hdr (by simp)
     have hdr':(g r).sv=.dat dr:=by rw[hrr];exact hdr
     obtain⟨_,β2,cc,hβ2,hvr,hVj⟩:=h4 (by rw[Sub.okU hrr];exact hok) dr hdr'
     have hd1:((g.up (.put j .dead)) j).sv=.dead:=by rw[vD]
     have hd2:((g.up (.put j .dead)) r).sv=.dat dr:=by rw[rF (B7 hje)];exact hdr'
     obtain⟨hsane,hkeep⟩:=hk1.repl hβ2 hd1 hd2
     refine uH hr (hK _ _ S β2 wG yN ?_ (A3y.repl_or hβ2 hc.rel.sane).2)
     rw[ho,vE hd,zH (x:=.tmp j) hVj]
     exact hk1.finish (fun _ _=>rfl) (hc.dead.up hjN) (fun _ _=>rfl) hd hsane (fun b hb=>⟨hb,rfl⟩) (fun i s b hi ha hb=>⟨hkeep i s b hi ha hb,rfl⟩) ⟨cc,by simpa[xA] using hvr,by simp[upd]⟩
    ·cases hdat
   ·split at hk
    ·rename_i d' us' ht
     simp only[Aa] at hk;subst hk
     rw[← hx] at ht
     exact tk ht ho
    ·cases hk
  ·cases hk
 ·split at hk
  ·rename_i d' us' ht
   obtain⟨dd,ho,rfl⟩:=yG hk
   exact tk ht ho
  ·cases hk
end
end Go.Rf

end
section
namespace Go.Rf
set_option linter.unusedSectionVars false
variable [T:Laid]
section
variable {P:Program} {H:Nat→Option (List Value)} {N:Nat} {g g' σ:zW} {V V':Nat→Option Value} {w w':World} {S S':Nat→Prop} {β β':Key→Option Nat} {a:Act} {o:Oper}
variable {E:Env} {gv:zW} {us:List Up}
theorem As2 {k:Nat} {z:List Value→Bool} (hz:∀ c,z c=true→c.length=k):∀ {n:Nat} {c:List Value},qR.zarr k z n c=true→c.length=n * k∧∀ i,i < n→z (win c (i * k) k)=true
 | 0,c,h=>by
  simp only[qR.zarr,Bi] at h;subst h
  exact⟨by simp,fun i hi=>by omega⟩
 | n+1,c,h=>by
  simp only[qR.zarr,Ad] at h
  obtain⟨h1,h2⟩:=h
  obtain⟨h3,h4⟩:=As2 hz h2
  have h5:=hz _ h1
  simp only[BZ,Bj] at h3 h5
  have hlen:c.length=(n+1) * k:=by rw[Ah];omega
  refine⟨hlen,fun i hi=>?_⟩
  cases i with
  | zero=>simpa[win] using h1
  | succ i=>
   have:=h4 i (by omega)
   unfold win at this ⊢
   rw[BG] at this
   rw[Ah,Av,Nat.add_comm (i * k) k];exact this
theorem iB {t:Ty} {c:List Value} (ht:t.agg=false) (h:qR t c=true):∃ v,c=[v]∧A7Z t v=true:=by
 cases t<;>simp[Ty.agg] at ht<;>(cases c with
  | nil=>simp[qR] at h
  | cons v l=>cases l with
   | nil=>exact⟨v,rfl,by simpa[qR] using h⟩
   | cons _ _=>simp[qR] at h)
theorem rM (deep:Bool):∀ {τ:Ty} {c:List Value} {k:Key},qR τ c=true→zN S β H w k τ (Fl.nw deep τ) τ.dflt c
 | .int i,c,k,h=>by
  obtain⟨v,hv0,hz⟩:=iB rfl h
  replace h:=hz;clear hz;subst hv0
  cases v<;>first|(exfalso;simp[A7Z] at h;done)| skip
  simp only[A7Z,Ad,Ar] at h
  obtain⟨rfl,rfl⟩:=h
  cases deep<;>simp[zN,Fl.nw,Fl.full,Fl.half,Fl.base,pN,Fl.pins,Rd,Ty.dflt]
 | .bool,c,k,h=>by
  obtain⟨v,hv0,hz⟩:=iB rfl h
  replace h:=hz;clear hz;subst hv0
  cases v<;>first|(exfalso;simp[A7Z] at h;done)| skip
  simp only[A7Z,A8] at h
  subst h
  cases deep<;>simp[zN,Fl.nw,Fl.full,Fl.half,Fl.base,pN,Fl.pins,Rd,Ty.dflt]
 | .str,c,k,h=>by
  obtain⟨v,hv0,hz⟩:=iB rfl h
  replace h:=hz;clear hz;subst hv0
  cases v<;>first|(exfalso;simp[A7Z] at h;done)| skip
  simp only[A7Z,Bi] at h
  rename_i s
  have:s=⟨⟨[]⟩⟩:=by apply ByteArray.ext;apply AG.1;rw[h]
  subst this
  cases deep<;>simp[zN,Fl.nw,Fl.full,Fl.half,Fl.base,pN,Fl.pins,Rd,Ty.dflt]
 | .fn,c,k,h=>by
  obtain⟨v,hv0,hz⟩:=iB rfl h
  replace h:=hz;clear hz;subst hv0
  cases v<;>first|(exfalso;simp[A7Z] at h;done)| skip
  cases deep<;>simp[zN,Fl.nw,Fl.full,Fl.half,Fl.base,pN,Fl.pins,Rd,Ty.dflt,Aw7]
 | .unit,c,k,h=>by
  simp only[qR,Bi] at h;subst h
  cases deep<;>simp[zN,Fl.nw,Fl.full,Fl.half,Fl.base,pN,Fl.pins,Rd]
 | .sl t,c,k,h=>by
  obtain⟨v,hv0,hz⟩:=iB rfl h
  replace h:=hz;clear hz;subst hv0
  have:v=.slice none 0 0:=by
   unfold A7Z at h
   split at h<;>first|rfl|(rename_i e _;cases e)| (rename_i e;cases e)| (cases h)| skip
   all_goals simp_all
  subst this
  cases deep<;>(simp only[zN,Fl.nw,Fl.full,Fl.half,Fl.base,pN,Fl.pins,Ty.dflt];exact⟨by simp,none,0,rfl,by simp,.inl rfl⟩)
 | .ptr t,c,k,h=>by
  obtain⟨v,hv0,hz⟩:=iB rfl h
  replace h:=hz;clear hz;subst hv0
  cases deep<;>simp[zN,Fl.nw,Fl.full,Fl.half,Fl.base,pN,Fl.pins]
 | .arr n t,c,k,h=>by
  simp only[qR] at h
  obtain⟨h1,h2⟩:=As2 (fun c hc=>zO (rM deep (k:=[]) hc)) h
  have:Fl.nw deep (.arr n t)=.mkar (Fl.nw deep t):=by cases deep<;>rfl
  rw[this,aJ]
  refine⟨by simp[Ty.dflt],h1,fun i y hy=>?_⟩
  have hy':(Bu n t.dflt)[i]?=some y:=hy
  rw[Be] at hy'
  split at hy'
  ·rename_i hi
   simp only[Aa] at hy';subst hy'
   exact rM deep (h2 i hi)
  ·cases hy'
 | .pair s u,c,k,h=>by
  simp only[qR,Ad] at h
  have:Fl.nw deep (.pair s u)=.mkpr (Fl.nw deep s) (Fl.nw deep u):=by cases deep<;>rfl
  rw[this,sW]
  exact⟨rM deep h.1,rM deep h.2⟩
structure Pushed (w w':World) (ob:Obj):Prop where
 heap:w'.heap=w.heap.push ob
 out:SameOut w w'
def AQ6 (β:Key→Option Nat) (k:Key) (b:Nat):Key→Option Nat:=fun k'=>if k'=k then some b else β k'
theorem uW {ob:Obj} (hw:Pushed w w' ob) {b:Nat} (hb:b < w.heap.size):w'.heap[b]?=w.heap[b]?:=by
 rw[hw.heap,Br,As (by omega)]
theorem BM1 {ob:Obj} (hw:Pushed w w' ob):w'.heap[w.heap.size]?=some ob:=by rw[hw.heap];simp
theorem AW0 {ob:Obj} (hw:Pushed w w' ob):w'.heap.size=w.heap.size+1:=by rw[hw.heap];simp
theorem Sane.new {ob:Obj} (h:Sane w S β) (hw:Pushed w w' ob) (k:Key):Sane w' S (AQ6 β k w.heap.size) where
 tab:=h.tabs fun b hb=>⟨hb,uW hw (h.liveS b hb)⟩
 inj k1 k2 b h1 h2:=by
  unfold AQ6 at h1 h2
  split at h1<;>split at h2
  ·rename_i e1 e2;rw[e1,e2]
  ·cases h1;have:=h.live _ _ h2;omega
  ·cases h2;have:=h.live _ _ h1;omega
  ·exact h.inj _ _ _ h1 h2
 sep k1 b h1 h2:=by
  unfold AQ6 at h1
  split at h1
  ·cases h1;have:=h.liveS _ h2;omega
  ·exact h.sep _ _ h1 h2
 live k1 b h1:=by
  rw[AW0 hw]
  unfold AQ6 at h1
  split at h1
  ·cases h1;omega
  ·have:=h.live _ _ h1;omega
 liveS b hb:=by rw[AW0 hw];have:=h.liveS b hb;omega
theorem Step.newB {ob:Obj} (hw:Pushed w w' ob) (k:Key):Step w S β w' S (AQ6 β k w.heap.size) where
 size:=by rw[AW0 hw];omega
 old b hb _:=uW hw hb
 new k1 b h1:=by
  unfold AQ6 at h1
  split at h1
  ·cases h1;exact .inr (Al _)
  ·exact .inl ⟨_,h1⟩
 keepS _ hb:=hb
 newS _ hb:=.inl hb
 out:=hw.out
theorem AC1.new {q:Bool} {cs:Array Value} {e:TypeId} {fz:Nat × Nat} (hw:Pushed w w' (.cells cs e fz)) (hf:fz=(0,0)∨(q=true∧cs.size≤fz.1)):AC1 q w' w.heap.size cs:=by
 refine⟨e,fz,BM1 hw,fun o ho h=>?_,hf.elim .inr fun h=>.inl h.1⟩
 rcases hf with rfl|hf
 ·exact absurd h.2 (Nat.not_lt_zero _)
 ·exact absurd h.1 (by omega)
theorem A6V {d:Nat} {v:SV} {val:Value} {ob:Obj} (hc:Ctx P H S β a w o g) (ho:o.dst=some d) (hr:(execOp a.eval o).run P w=.ok (.value val) w') (hw:Pushed w w' ob)
  (hn:rR H a.tmps.size (g.up (.put d v)) (upd (qD a) d val) w' S (AQ6 β [d] w.heap.size) d v):yF P H S β a w o (g.ups [.put d v]):=by
 intro K Q hK
 have hd:=xF hc.opIn ho
 refine uH hr (hK _ _ S _ wG yN ?_ (Step.newB hw [d]))
 rw[ho,vE hd]
 exact hc.rel.finish (fun _ _=>rfl) hc.dead (fun _ _=>rfl) hd (hc.rel.sane.new hw [d]) (fun b hb=>⟨hb,uW hw (hc.rel.sane.liveS b hb)⟩)
  (fun j s b hj _ hb=>⟨by unfold AQ6;rw[As (by simp[hj])];exact hb,uW hw (hc.rel.sane.live _ b hb)⟩) hn
theorem A5k {t:TypeId} {τ:Ty} (h:E.tz t=some τ):E.ty t=some τ∧∃ z,(∀ w,(zeroValue t).run E.P w=.ok z w)∧qR τ z.cells.toList=true:=by
 unfold Env.tz at h
 split at h
 ·rename_i τ' ht
  split at h
  ·rename_i hz
   simp only[Aa] at h;subst h
   refine⟨ht,?_⟩
   unfold Env.zok at hz
   split at hz
   ·rename_i i hi
    split at hz
    ·rename_i v hv
     exact⟨v,fun w=>by unfold zeroValue;simp[vK hi,hv],hz⟩
    ·cases hz
   ·cases hz
  ·cases h
 ·cases h
theorem Ax4 {mv:Bool} {t:TypeId} (hc:Ctx E.P H S β a w o g) (hm:o.op=.alloc t)
  (hk:Ai9 E mv o t some=some us):yF E.P H S β a w o (g.ups us):=by
 unfold Ai9 at hk
 split at hk
 ·rename_i τ ht
  obtain⟨d,ho,rfl⟩:=yG hk
  obtain⟨hty,z,hz,hzc⟩:=A5k ht
  have hlen:=zO (rM (S:=S) (β:=β) (H:=H) (w:=w) mv (k:=[]) hzc)
  refine A6V (w':={ w with heap:=w.heap.push (.cells z.cells t) }) (val:=.pointer (some ⟨w.heap.size,0,none⟩)) hc ho ?_ ⟨rfl,rfl,rfl,rfl⟩ ?_
  ·simp[execOp,hm,Instr.alloc,hz,newVar,newRow]
  ·refine⟨[.pointer (some ⟨w.heap.size,0,none⟩)],?_,by simp[upd,zV,Ty.agg]⟩
   simp only[zN,Fl.base]
   exact⟨by simp[pN,Fl.pins],w.heap.size,z.cells,rfl,by simp[AQ6],AC1.new ⟨rfl,rfl,rfl,rfl⟩ (.inl rfl),by simpa using hlen,rM mv hzc⟩
 ·cases hk
theorem A4w {mv:Bool} {t:TypeId} {x:Operand} (hc:Ctx E.P H S β a w o g) (hs:Sub gv g) (hm:o.op=.box t x)
  (hk:BF5 E gv mv o t x some=some us):yF E.P H S β a w o (g.ups us):=by
 unfold BF5 at hk
 split at hk
 ·rename_i τ d us' ht hti
  split at hk
  ·rename_i hty
   subst hty
   obtain⟨dd,ho,rfl⟩:=yG hk
   obtain⟨ht',_⟩:=fN hs hti
   obtain⟨S1,β1,c,h1,h2,h3,h4⟩:=jY hc.rel ht' (n:=a.tmps.size) (hc.dead _ (Al _)) (Al _)
   have hwh:=AQ8 ht'
   have hd:=xF hc.opIn ho
   have hD:yD a.tmps.size (g.ups us'):=hc.dead.ups fun u hu=>hc.dead.lt (iG ht' u hu)
   obtain⟨cc,hvr,hVn⟩:=h1.dat jA
   have hcc:cc=c:=by
    simp only[upd,Az] at hVn
    exact (uA (Ap hVn) h4 (zO hvr)).symm
   subst hcc
   have hone:=Ap6 hwh hvr
   let w':World:={ w with heap:=w.heap.push (.cells (zV d.t cc).cells t) }
   have hw':Pushed w w' (.cells (zV d.t cc).cells t):=⟨rfl,rfl,rfl,rfl⟩
   have hr:(execOp a.eval o).run E.P w=.ok (.value (.pointer (some ⟨w.heap.size,0,none⟩))) w':=by
    simp[execOp,hm,Instr.box,zH h3,newVar,newRow,w']
   intro K Q hK
   have hk1:Rel H a.tmps.size ((upN (g.ups us') a.tmps.size d).up (.put a.tmps.size .dead)) (upd (qD a) a.tmps.size (zV d.t cc)) w S1 β1:=h1.kill fun _ _=>rfl
   have hsane:=(hk1.sane.rekey [a.tmps.size] [dd,0]).new hw' [dd]
   refine uH hr (hK _ _ S1 _ wG yN ?_ (h2.trans ((Step.rekey [a.tmps.size] [dd,0]).trans (Step.newB hw' [dd]))))
   rw[ho,vE hd,yQ]
   refine hk1.finish (fun i hi=>by rw[rF (by omega),kS (by omega)]) hD (fun i hi=>by simp only[upd];rw[As (by omega)]) hd hsane (fun b hb=>⟨hb,uW hw' (hk1.sane.liveS b hb)⟩)
    (fun j s b hj ha hb=>⟨?_,uW hw' (hk1.sane.live _ b hb)⟩) ?_
   ·have hjn:j≠a.tmps.size:=fun e'=>by subst e';exact ha (by rw[vD])
    unfold AQ6
    rw[As (by simp[hj]),xX (by simp[sA,B7 hj]) (zZ hjn)];exact hb
   ·refine⟨[.pointer (some ⟨w.heap.size,0,none⟩)],?_,by simp[upd,zV,Ty.agg]⟩
    simp only[zN,Fl.base]
    refine⟨by simp[pN,Fl.pins],w.heap.size,(zV d.t cc).cells,rfl,by simp[AQ6],AC1.new hw' (.inl rfl),?_,?_⟩
    ·rw[dZ h4 hone];simp[h4]
    ·rw[dZ h4 hone]
     refine zI (fun b hb=>⟨hb,uW hw' (hk1.sane.liveS b hb)⟩) (fun s b hb=>⟨?_,uW hw' (hk1.sane.live _ b hb)⟩) hvr
     have:AQ6 (rekey β1 [a.tmps.size] [dd,0]) [dd] w.heap.size ([dd]++[0]++s)=rekey β1 [a.tmps.size] [dd,0] ([dd,0]++s):=by
      unfold AQ6;rw[As (by simp)];rfl
     rw[this,Ab8];exact hb
  ·cases hk
 ·cases hk
end
end Go.Rf

end
section
namespace Go.Rf
set_option linter.unusedSectionVars false
variable [T:Laid]
section
variable {P:Program} {H:Nat→Option (List Value)} {N:Nat} {g g' σ:zW} {V V':Nat→Option Value} {w w':World} {S S':Nat→Prop} {β β':Key→Option Nat} {a:Act} {o:Oper}
variable {E:Env} {gv:zW} {us:List Up}
theorem gT {x:Operand} (hs:Sub gv g) (h:publish gv x (sv gv x)=some us):publish g x (sv g x)=some us∧Sub (gv.ups us) (g.ups us)∧∀ u ∈ us,(g u.slot).sv≠.dead:=by
 cases hv:sv gv x with
 | dat e=>
  rw[hs.sv hv (by simp)];rw[hv] at h
  refine⟨h,?_⟩
  simp only[publish] at h
  split at h
  ·simp only[Aa] at h;subst h;exact⟨hs,by simp⟩
  ·split at h
   ·split at h
    ·rename_i s
     simp only[Aa] at h;subst h
     have he:(gv s).sv=.dat e:=hv
     exact⟨hs.up (u:=.pub s _) (by simp[Up.slot,he]),by simp[Up.slot,hs.get he (by simp),he]⟩
    ·cases h
   ·cases h
 | als r p c s=>
  rw[hs.sv hv (by simp)];rw[hv] at h
  simp only[publish] at h ⊢
  split at h
  ·rename_i hok
   split at h
   ·rename_i e he
    have hr:=hs.get he (by simp)
    rw[Sub.okA hr,hok,hr,he]
    refine⟨h,?_⟩
    split at h
    ·split at h
     ·simp only[Aa] at h;subst h;exact⟨hs,by simp⟩
     ·split at h
      ·simp only[Aa] at h;subst h
       exact⟨hs.up (u:=.pub r _) (by simp[Up.slot,he]),by simp[Up.slot,hr,he]⟩
      ·cases h
    ·cases h
   ·cases h
  ·cases h
 | clo f rs=>
  rw[hs.sv hv (by simp)];rw[hv] at h
  cases rs with
  | nil=>refine⟨h,?_⟩;simp only[publish,Aa] at h;subst h;exact⟨hs,by simp⟩
  | cons _ _=>simp[publish] at h
 | _=>rw[hv] at h;simp[publish] at h
theorem dK {x:Operand} {d:Dat} (h:Rel H N g V w S β) (hp:publish g x (sv g x)=some us) (hd:yK g (sv g x)=some d):
  ∃ S1 β1 c,Rel H N (g.ups us) V w S1 β1∧Step w S β w S1 β1∧evl V x=some (zV d.t c)∧Rd S1 w d.t d.x c:=by
 cases hv:sv g x with
 | dat e=>
  rw[hv] at hp hd
  simp only[yK] at hd
  split at hd
  ·rename_i hw
   simp only[Aa] at hd;subst hd
   simp only[publish] at hp
   split at hp
   ·rename_i hf
    simp only[Aa] at hp;subst hp
    have hf:=wW hf
    rcases pP h hv with ⟨s,rfl,hs⟩| ⟨_,c,hc,hrd⟩
    ·obtain⟨c,hvr,hV⟩:=h.dat hs
     rw[hf,yO] at hvr
     exact⟨S,β,c,h,.refl,hV,hvr⟩
    ·exact⟨S,β,c,h,.refl,hc,hrd⟩
   ·split at hp
    ·rename_i s
     simp only[Aa] at hp;subst hp
     have he:(g s).sv=.dat e:=hv
     obtain⟨c,hvr,hV⟩:=h.dat he
     exact⟨_,_,c,h.publish (p:=[]) he rfl hw,.pub _ _ _,hV,Ar3 (p:=[]) (e:=e) (d:=e) rfl hw (by simpa[xA] using hvr)⟩
    ·cases hp
  ·cases hd
 | als r p c s=>
  rw[hv] at hp hd
  obtain⟨i,rfl,hi⟩:=vZ hv (by simp) (by simp) (by simp)
  simp only[yK] at hd
  split at hd
  ·rename_i hok
   split at hd
   ·rename_i e0 hat
    split at hd
    ·rename_i hw
     simp only[Aa] at hd;subst hd
     obtain⟨e,he,hg⟩:=lX hat
     obtain⟨_,hb,hnd,cr,L,c',k1,k2,k3,k4,k5,k6,k7⟩:=h.als hi hok he hg
     simp only[publish,hok,Az,he,hg] at hp
     split at hp
     ·rename_i hf
      simp only[Aa] at hp;subst hp
      rw[wW hf,yO] at k6
      exact⟨S,β,c',h,.refl,k7,k6⟩
     ·simp only[Aa] at hp;subst hp
      exact⟨_,_,c',h.publish he hg hw,.pub _ _ _,k7,Ar3 hg hw k6⟩
    ·cases hd
   ·cases hd
  ·cases hd
 | clo f rs=>
  rw[hv] at hp hd
  cases rs with
  | nil=>
   simp only[publish,Aa] at hp;subst hp
   obtain⟨c,hc,hrd⟩:=tM h (x:=x) (d:=d) (by rw[hv];exact hd)
   simp only[yK,eJ,Bb,Aa] at hd
   subst hd
   refine⟨S,β,c,h,.refl,hc,?_⟩
   simp only[Rd,Aw7,qY] at hrd ⊢
   exact hrd
  | cons _ _=>simp[publish] at hp
 | _=>rw[hv] at hp;simp[publish] at hp
theorem aU {x:Option Operand} {dflt:Nat} {κ:Nat→Option (List Up)} (hc:Ctx P H S β a w o g) (hs:Sub gv g) (h:AM5 (x.map (sv gv)) dflt κ=some us):
  ∃ n,κ n=some us∧((x=none∧n=dflt)∨∃ op k i,x=some op∧a.eval op=.int k i∧0≤i∧n=i.toNat):=by
 cases x with
 | none=>exact⟨dflt,h,.inl ⟨rfl,rfl⟩⟩
 | some op=>
  simp only[Bb] at h
  unfold AM5 at h
  split at h
  ·rename_i e;cases e
  ·rename_i k i e
   simp only[Aa] at e
   simp only[Aj] at h
   split at h
   ·rename_i h1
    simp only[zA,Ar] at h1
    exact⟨_,h,.inr ⟨op,k,i,rfl,zH (gS hc.rel (hs.sv e (by simp)) kA),h1,rfl⟩⟩
   ·cases h
  ·cases h
theorem bV {isSl:Bool} {len cap l h:Nat} {lo hi:Option Operand} {ρ:Operand→Value} (hh:(hi=none∧h=len)∨∃ op k i,hi=some op∧ρ op=.int k i∧0≤i∧h=i.toNat)
  (hl:(lo=none∧l=0)∨∃ op k i,lo=some op∧ρ op=.int k i∧0≤i∧l=i.toNat) (h1:h≤cap) (h2:l≤h):
  (BV isSl len cap (lo.map ρ) (hi.map ρ) none).run P w=.ok (l,h,cap) w:=by
 have b:∀ (k:IntKind) (i:Int) (y:Nat) (c:BoundsCode),0≤i→i.toNat≤y→(B' (.int k i) y c).run P w=.ok i.toNat w:=fun k i y c hi hy=>by
  simp only[B',asIntOf,Sem.run_bind,Sem.run_pure,Result.andThen_ok]
  rw[AE ⟨hi,by omega⟩,Sem.run_pure]
 unfold BV
 rcases hh with ⟨rfl,rfl⟩| ⟨op,k,i,rfl,ho,hi,rfl⟩<;>rcases hl with ⟨rfl,rfl⟩| ⟨op',k',i',rfl,ho',hi',rfl⟩
 ·simp
 ·simp[ho',b k' i' _ _ hi' h2]
 ·simp[ho,b k i _ _ hi h1]
 ·simp[ho,ho',b k i _ _ hi h1,b k' i' _ _ hi' h2]
theorem Ak8 {ρ:Operand→Value} {t:TypeId} {x:Operand} {lo hi:Option Operand} {val:Value} {u:TypeDesc} (ho:o.op=.slice t x lo hi none) (hu:P.underlying t=some u) (hn:∀ n e,u≠.array n e)
  (hr:(Cd t (ρ x) (lo.map ρ) (hi.map ρ) none).run P w=.ok val w):(execOp ρ o).run P w=.ok (.value val) w:=by
 have:(Cn t (ρ x) (lo.map ρ) (hi.map ρ) none).run P w=.ok val w:=by
  unfold Cn
  simp only[Sem.run_bind,zC hu,Result.andThen_ok]
  cases u<;>first|exact hr|exact absurd rfl (hn _ _)
 simp only[execOp,ho,Cg,Sem.run_bind,this,Result.andThen_ok,Sem.run_pure]
theorem A7U {α:Type} {s:List α} {l h:Nat} (h1:h≤s.length) (h2:l≤h):(BK l (BL h s)).length=h - l:=by simp;omega
theorem A6o {α:Type} {l h:Nat}:BK l (BL h ([]:List α))=[]:=by simp
theorem A7R {α:Type} {s:List α} {l h i:Nat} {y:α} (hy:nth (BK l (BL h s)) i=some y):nth s (l+i)=some y:=by
 unfold nth at hy ⊢
 rw[BP,List.getElem?_take] at hy
 split at hy
 ·exact hy
 ·cases hy
theorem Aj9 {s:List UInt8} {l h:Nat}:(⟨⟨s⟩⟩:ByteArray).extract l h=⟨⟨BK l (BL h s)⟩⟩:=by
 have:=ByteArray.extract_mk s l h
 rw[Ci];exact this
theorem A0U {t:TypeId} {x:Operand} {lo hi:Option Operand} (hc:Ctx E.P H S β a w o g) (hs:Sub gv g) (hm:o.op=.slice t x lo hi none)
  (hk:Al7 gv o (E.ty t) x lo hi some=some us):yF E.P H S β a w o (g.ups us):=by
 unfold Al7 at hk
 split at hk
 ·rename_i s f ht hd
  obtain⟨h,hk,hh⟩:=aU hc hs hk
  obtain⟨l,hk,hl⟩:=aU hc hs hk
  simp only[Aj] at hk
  split at hk
  ·rename_i h1
   split at hk
   ·rename_i h2
    simp only[BQ] at h1 h2
    obtain⟨c,hcv,hr⟩:=tM hc.rel (uD hs hd)
    simp only[Rd] at hr;subst hr
    have ex:a.eval x=.string ⟨⟨s⟩⟩:=zH hcv
    have hu:=AK2 ht
    refine DV.str.look hc.rel hc.dead hc.opIn hk (Ak8 hm hu (by simp) ?_)
    rw[ex]
    have hb:=bV (P:=E.P) (w:=w) (isSl:=false) (len:=(⟨⟨s⟩⟩:ByteArray).size) (cap:=(⟨⟨s⟩⟩:ByteArray).size) hh hl h1 h2
    unfold Cd
    simp only[Sem.run_bind,zC hu,Result.andThen_ok,Option.isSome_none,Bool.false_eq_true,if_false,hb,Sem.run_pure]
    congr 2
    exact Aj9
   ·cases hk
  ·cases hk
 ·rename_i τ τ' s f ht hd
  split at hk
  ·rename_i e;subst e
   split at hk
   ·rename_i us' hp
    obtain⟨h,hk,hh⟩:=aU hc hs hk
    obtain⟨l,hk,hl⟩:=aU hc hs hk
    simp only[Aj] at hk
    split at hk
    ·rename_i h1
     split at hk
     ·rename_i h2
      simp only[BQ] at h1 h2
      obtain⟨dd,ho,rfl⟩:=yG hk
      obtain⟨hp',_,halive⟩:=gT hs hp
      obtain⟨S1,β1,c,hrel,hst,hcv,hr⟩:=dK hc.rel hp' (uD hs hd)
      simp only[Rd] at hr
      obtain⟨ad,cap,rfl,hlc,hr⟩:=hr
      have ex:a.eval x=.slice ad (Ag s) cap:=zH hcv
      obtain⟨e,he,h7⟩:=AN0 ht
      have hb:=bV (P:=E.P) (w:=w) (isSl:=true) (len:=Ag s) (cap:=cap) hh hl (by omega) h2
      have hrun:(execOp a.eval o).run E.P w=.ok (.value (.slice (if cap=l then ad else ad.map (·.add (l * τ.size))) (h - l) (cap - l))) w:=by
       refine Ak8 hm he (by simp) ?_
       rw[ex]
       unfold Cd
       simp only[Sem.run_bind,zC he,Result.andThen_ok,hb,uF h7,Sem.run_pure]
      refine Ah4 (g:=g) (g1:=g.ups us') (V1:=qD a) ho (xF hc.opIn ho) hrel hst (fun _ _=>rfl) (hc.dead.ups fun u hu=>hc.dead.lt (halive u hu)) (fun _ _=>rfl) hrun ?_
      have hlen:Ag (BK l (BL h s))=h - l:=A7U h1 h2
      refine AV8 (c:=[.slice (if cap=l then ad else ad.map (·.add (l * τ.size))) (h - l) (cap - l)]) ?_ rfl
      simp only[Rd]
      refine⟨_,_,by rw[hlen],by rw[hlen];omega,?_⟩
      rcases hr with hr|⟨b,oo,cs,rfl,hS,hB,hz,hr⟩
      ·left;rw[hr];exact A6o
      ·by_cases hcl:cap=l
       ·left
        have:h=l:=by omega
        apply Am.1;omega
       ·right
        refine⟨b,oo+l * τ.size,cs,by rw[As hcl];simp[mL],hS,hB,?_,fun i y hy=>?_⟩
        ·rw[hlen]
         have:(h - l) * τ.size+l * τ.size≤Ag s * τ.size:=by rw[← Ah];exact Ac _ (by omega)
         omega
        ·have hy':nth s (l+i)=some y:=A7R hy
         have:=hr (l+i) y hy'
         rw[Ah,← Nat.add_assoc] at this
         exact this
     ·cases hk
    ·cases hk
   ·cases hk
  ·cases hk
 ·cases hk
theorem A5N:∀ {i:Nat} {t:Ty} {f:Fl} {x:t.D} {c:List Value} {k:Key} {e:Dat},zN S β H w k t f x c→yJ (zG i) t f x=some e →
  ∃ ci,(A9Z t c)[i]?=some (zV e.t ci)∧zN S β H w (k++xA (zG i)) e.t e.f e.x ci
 | 0,.pair s u,f,x,c,k,e,hv,hg=>by
  simp only[zG,yJ,Aa] at hg;subst hg
  exact⟨_,rfl,by simpa[zG,xA] using (wJ hv).1⟩
 | i+1,.pair s u,f,x,c,k,e,hv,hg=>by
  simp only[zG,yJ] at hg
  obtain⟨ci,h1,h2⟩:=A5N (wJ hv).2 hg
  exact⟨ci,by simpa[A9Z] using h1,by simpa[zG,xA] using h2⟩
theorem AR4:∀ {i:Nat},cW (zG i)=false
 | 0=>rfl
 | i+1=>by simp only[zG,cW,PS.isElm,Cl];exact AR4
theorem Af2 {x:Operand} {i:Nat} (hc:Ctx P H S β a w o g) (hs:Sub gv g) (hm:o.op=.extract x i)
  (hk:gV gv o x i some=some us):yF P H S β a w o (g.ups us):=by
 unfold gV at hk
 split at hk
 ·rename_i s
  split at hk
  ·rename_i d hd
   have hsub:=hs.get hd (by simp)
   have hd':(g s).sv=.tup d:=by rw[hsub];exact hd
   have hss:=hc.rel.slots s
   rw[hd'] at hss
   obtain⟨c,hv,hV⟩:=hss
   split at hk
   ·rename_i e hg
    obtain⟨ci,h1,h2⟩:=A5N hv hg
    have ex:a.eval (.tmp s)=A7p d.t c:=zH (x:=.tmp s) hV
    have hr:(execOp a.eval o).run P w=.ok (.value (zV e.t ci)) w:=by
     have h1':(A9Z d.t c).toArray[i]?=some (zV e.t ci):=by simpa using h1
     simp only[execOp,hm,ex,A7p,Instr.extract,h1',Sem.run_bind,Sem.run_pure,Result.andThen_ok]
    split at hk
    ·rename_i hf
     have hf:=wW hf
     rw[hf,yO] at h2
     exact DV.look ⟨hf,ci,h2,rfl⟩ hc.rel hc.dead hc.opIn hk hr
    ·split at hk
     ·rename_i hw
      obtain⟨dd,ho,rfl⟩:=yG hk
      have hN:=hc.dead a.tmps.size (Al _)
      have hsN:=hc.dead.lt (show (g s).sv≠.dead by rw[hd'];simp)
      have hstep:Rel H a.tmps.size (g.up (.put s (.tup ⟨d.t,d.x,kD (zG i) d.f .gone⟩))) (qD a) w S (rekey β (s :: xA (zG i)) [a.tmps.size]):=by
       refine hc.rel.put (hc.rel.sane.rekey _ _) (fun b hb=>⟨hb,rfl⟩) (fun j k b hj ha hb=>⟨?_,rfl⟩) (fun _ _=>rfl) ?_
       ·have hjn:j≠a.tmps.size:=fun e'=>ha (e' ▸ hN)
        rw[xX (zZ hjn) (zZ hj)];exact hb
       ·refine⟨c,pA (fun b hb=>⟨hb,rfl⟩) AR4 hg (fR hw) (fun k b hk hb=>⟨?_,rfl⟩) hv,hV⟩
        simp only[A5,Bc] at hb ⊢
        rw[xX (zZ (by omega)) (AO4 hk)];exact hb
      have hhand:=hstep.hand (n:=a.tmps.size) (d:=e) (c:=ci) (qH (by simpa using h2))
      intro K Q hK
      have hdd:=xF hc.opIn ho
      refine uH hr (hK _ _ S _ wG yN ?_ ((Step.rekey (s :: xA (zG i)) [a.tmps.size]).trans (Step.rekey [a.tmps.size] [dd])))
      rw[ho,vE hdd]
      exact hhand.land jA (Al _) (by simp[upd]) (fun i hi=>kS (by omega)) (hc.dead.up hsN) (fun i hi=>by simp only[upd];rw[As (by omega)]) hdd
     ·cases hk
   ·cases hk
  ·cases hk
 ·cases hk
end
end Go.Rf

end
section
namespace Go.Rf
set_option linter.unusedSectionVars false
variable [T:Laid]
section
variable {P:Program} {H:Nat→Option (List Value)} {N:Nat} {g g' σ:zW} {V V':Nat→Option Value} {w w':World} {S S':Nat→Prop} {β β':Key→Option Nat} {a:Act} {o:Oper}
variable {E:Env} {gv:zW} {us:List Up}
def kO (z:Array Value) (n:Nat):Array Value:=(BH n).map fun i=>z[i % z.size]!
theorem iK {z:Array Value} {n:Nat}:(kO z n).size=n:=by simp[kO]
theorem A0g {z:Array Value} {m i:Nat} (hi:i < m):win (kO z (m * z.size)).toList (i * z.size) z.size=z.toList:=by
 rcases BR z.size with e|e
 ·have:z=#[]:=Array.size_eq_zero_iff.1 e
  subst this;simp[win]
 ·have hle:(i+1) * z.size≤m * z.size:=Ac _ hi
  rw[Ah,Av] at hle
  apply AC
  intro j
  rw[rL]
  by_cases hj:j < z.size
  ·rw[AE hj]
   have h1:i * z.size+j < (kO z (m * z.size)).size:=by rw[iK];omega
   rw[Bh,Bx h1]
   simp only[kO,Array.getElem_map,Array.getElem_range]
   have:(i * z.size+j) % z.size=j:=by rw[Nat.mul_comm,Nat.mul_add_mod,Nat.mod_eq_of_lt hj]
   rw[this,Bh,Bx hj,getElem!_pos z j hj]
  ·rw[As hj];simp;omega
structure SlOK (E:Env) (t e:TypeId) (τ:Ty) (z:Value):Prop where
 und:E.P.underlying t=some (.slice e)
 elem:tyN E.P 7 e=some τ
 zero:∀ w,(zeroValue e).run E.P w=.ok z w
 cells:qR τ z.cells.toList=true
 bytes:∃ i,E.P.info? e=some i∧i.bytes≤128
theorem A2s {t:TypeId} {τ':Ty} (h:E.sl t=some τ'):∃ τ e z,τ'=.sl τ∧SlOK E t e τ z:=by
 unfold Env.sl at h
 split at h
 ·rename_i τ e ht hu
  split at h
  ·rename_i hz
   simp only[Aa] at h
   simp only[Ad] at hz
   obtain⟨hz,hb⟩:=hz
   obtain⟨e',he',h7⟩:=AN0 ht
   rw[hu] at he'
   simp only[Aa,TypeDesc.slice.injEq] at he'
   subst he'
   unfold Env.zok at hz
   split at hz
   ·rename_i i hi
    split at hz
    ·rename_i v hv
     refine⟨τ,e,v,h.symm,hu,h7,fun w=>by unfold zeroValue;simp[vK hi,hv],hz,i,hi,?_⟩
     unfold Env.small at hb
     rw[hi] at hb
     simpa[BQ] using hb
    ·cases hz
   ·cases hz
  ·cases h
 ·cases h
theorem SlOK.size {t e:TypeId} {τ:Ty} {z:Value} (h:SlOK E t e τ z):z.cells.size=τ.size:=by
 have:=zO (rM (S:=fun _=>False) (β:=fun _=>none) (H:=fun _=>none) (w:=default) false (k:=[]) h.cells)
 simpa using this
theorem AB0 {n:Int} (h0:0≤n) (h1:n≤1099511627776):IntKind.i64.wrap n=n:=by
 simp only[IntKind.wrap,IntKind.bits,IntKind.signed]
 have:n % (2 ^ 64:Int)=n:=Int.emod_eq_of_lt h0 (by omega)
 simp only[this]
 simp
 intro h
 omega
theorem A0d {τ:Ty} {z:Value} {k:Key} {mv:Bool} {m:Nat} (hz:qR τ z.cells.toList=true) (hs:z.cells.size=τ.size) {i:Nat} (hi:i < m):
  zN S β H w k τ (Fl.nw mv τ) τ.dflt (win (kO z.cells (m * τ.size)).toList (i * τ.size) τ.size):=by
 rw[← hs,A0g hi];exact rM mv hz
theorem Ar1 {t e:TypeId} {τ:Ty} {z:Value} {n m:Int} (h:SlOK E t e τ z) (h0:zA n=true) (h1:leI n m=true) (h2:zX m.toNat=true):
  (Ch t (.int .i64 n) (.int .i64 m)).run E.P w=.ok (.slice (some ⟨w.heap.size,0,none⟩) n.toNat m.toNat) { w with heap:=w.heap.push (.cells (kO z.cells (m.toNat * τ.size)) e) }:=by
 simp only[zA,leI,Ar] at h0 h1
 have h2:=AL2 h2
 obtain⟨i,hi,hb⟩:=h.bytes
 have wn:IntKind.i64.wrap n=n:=AB0 h0 (by omega)
 have wm:IntKind.i64.wrap m=m:=AB0 (by omega) (by omega)
 have hsz:(sizeOf e).run E.P w=.ok τ.size w:=uF h.elem
 have hmul:(i.bytes:Int) * m≤2 ^ 48:=by
  have:(i.bytes:Int) * m≤128 * 1099511627776:=Int.mul_le_mul (by omega) (by omega) (by omega) (by omega)
  omega
 unfold Ch
 simp only[Sem.run_bind,zC h.und,Result.andThen_ok,asInt,asIntOf,Sem.run_pure,vK hi,wn,wm]
 have hc:¬ ((((decide (m < 0)|| decide ((i.bytes:Int) * m > 2 ^ 48))|| decide (n < 0))|| decide (n > m))=true):=by
  simp only[Ba,Ar]
  omega
 rw[As hc]
 by_cases hn:m.toNat * τ.size=0
 ·have e0:BH 0=#[]:=rfl
  simp[run_askRoom,hsz,hn,newRow,kO,e0]
 ·simp[run_askRoom,hsz,hn,newRow,kO,h.zero]
theorem AU7 {mv:Bool} {t:TypeId} {l c:Operand} (hc:Ctx E.P H S β a w o g) (hs:Sub gv g) (hm:o.op=.makeSlice t l c)
  (hk:iH E gv mv o t l c some=some us):yF E.P H S β a w o (g.ups us):=by
 unfold iH at hk
 split at hk
 ·rename_i τ n m ht hl hcap
  simp only[Aj] at hk
  split at hk
  ·rename_i h0
   split at hk
   ·rename_i h1
    split at hk
    ·rename_i h2
     obtain⟨d,ho,rfl⟩:=yG hk
     obtain⟨τ2,e,z,heq,hok⟩:=A2s ht
     simp only[Ty.sl.injEq] at heq
     subst heq
     have el:=zH (gS hc.rel (hs.sv hl (by simp)) kA)
     have ec:=zH (gS hc.rel (hs.sv hcap (by simp)) kA)
     have hrun:=Ar1 (w:=w) hok h0 h1 h2
     have h01:n.toNat≤m.toNat:=by simp only[leI,Ar] at h1;omega
     refine A6V (w':={ w with heap:=w.heap.push (.cells (kO z.cells (A0 m * τ.size)) e) }) (val:=.slice (some ⟨w.heap.size,0,none⟩) (A0 n) (A0 m)) hc ho ?_ ⟨rfl,rfl,rfl,rfl⟩ ?_
     ·simp only[execOp,hm,el,ec,Sem.run_bind]
      exact AX (fun r:Result Value=>Result.andThen r fun v w'=>Result.ok (Next.value v) w') hrun
     ·refine⟨[.slice (some ⟨w.heap.size,0,none⟩) (A0 n) (A0 m)],?_,by simp[upd,zV,Ty.agg]⟩
      simp only[zN,Fl.base]
      refine⟨by simp[pN,Fl.pins],some ⟨w.heap.size,0,none⟩,A0 m,by rw[AJ],by rw[AJ];exact h01,.inr ⟨w.heap.size,0,_,rfl,by simp[AQ6],AC1.new ⟨rfl,rfl,rfl,rfl⟩ (.inl rfl),?_,fun i y hy=>?_⟩⟩
      ·rw[iK];omega
      ·have hy':(Bu (A0 n) τ.dflt)[i]?=some y:=hy
       rw[Be] at hy'
       split at hy'
       ·rename_i hi
        simp only[Aa] at hy';subst hy'
        simp only[A2]
        exact A0d hok.cells hok.size (by omega)
       ·cases hy'
    ·cases hk
   ·cases hk
  ·cases hk
 ·cases hk
theorem A6P {α γ:Type} {f:α→γ} {l:List α} {i:Nat} {y:γ} (h:nth (l.map f) i=some y):∃ b,l[i]?=some b∧y=f b:=by
 unfold nth at h
 rw[AD,Ab] at h
 obtain⟨b,h1,h2⟩:=h
 exact⟨b,h1,h2.symm⟩
theorem Ao0 {xd:List UInt8} {e:TypeId} {d cap:Nat} (hcap0:cap=grownCap w xd.length 0 e):
  zN S (AQ6 β [d] w.heap.size) H (w.drew.alloc (.cells (bytesRow ⟨⟨xd⟩⟩ cap) e ((bytesRow ⟨⟨xd⟩⟩ cap).size,(bytesRow ⟨⟨xd⟩⟩ cap).size+1))) [d] (.sl (.int .u8)) (.own .sh) (Bv (fun b:UInt8=>(b.toNat:Int)) xd)
   [.slice (some ⟨w.heap.size,0,none⟩) (⟨⟨xd⟩⟩:ByteArray).size cap]:=by
 have hcap:xd.length≤cap:=by rw[hcap0];exact grownCap_ge w _ 0 e
 have hlen:(Bv (fun b:UInt8=>(b.toNat:Int)) xd).length=(⟨⟨xd⟩⟩:ByteArray).size:=by rw[AT];rfl
 have hsz:(bytesRow ⟨⟨xd⟩⟩ cap).size=cap:=by
  simp only[bytesRow,Bz,Array.size_map,Array.size_replicate]
  have h3:(⟨⟨xd⟩⟩:ByteArray).data.size=xd.length:=rfl
  have h2:(⟨⟨xd⟩⟩:ByteArray).size=xd.length:=rfl
  rw[h3,h2]
  omega
 simp only[zN,Fl.base]
 refine⟨by simp[pN,Fl.pins],some ⟨w.heap.size,0,none⟩,cap,AX (fun n=>[Value.slice (some ⟨w.heap.size,0,none⟩) n cap]) hlen.symm,Nat.le_trans (BW hlen) hcap,.inr ⟨w.heap.size,0,_,rfl,by simp[AQ6],AC1.new ⟨rfl,rfl,rfl,rfl⟩ (.inr ⟨rfl,Al _⟩),?_,fun i y hy=>?_⟩⟩
 ·rw[hsz];simp[Ty.size]
 ·obtain⟨b,hb1,hb2⟩:=A6P hy
  subst hb2
  have hi:i < xd.length:=(Ae.1 hb1).1
  have hbr:=bytesRow_at ⟨⟨xd⟩⟩ cap i hi
  refine⟨by simp[pN,Fl.pins],?_⟩
  simp only[Rd,Ty.size,Ce,A2]
  apply AC
  intro j
  rw[rL]
  cases j with
  | zero=>
   rw[AE (by decide),Ay,Bh,hbr]
   have:b=xd[i]:=(Ae.1 hb1).2.symm
   subst this
   rfl
  | succ j=>rw[As (by omega)];simp
theorem Ae0 {s t:TypeId} {x:Operand} (hc:Ctx E.P H S β a w o g) (hs:Sub gv g) (ho:o.op=.convert s t x) (h1:E.ty s=some .str) (h2:E.ty t=some (.sl (.int .u8)))
  (hk:Af8 (E.ty s) (E.ty t) (yK gv (sv gv x)) (fun d=>rW o [] (.dat d) some)=some us):yF E.P H S β a w o (g.ups us):=by
 cases hd:yK gv (sv gv x) with
 | none=>rw[hd,h1,h2] at hk;simp[Af8] at hk
 | some d=>
  obtain⟨c,hcv,hr⟩:=tM hc.rel (uD hs hd)
  have ex:=zH hcv
  rw[hd,h1,h2] at hk
  obtain⟨td,xd,fd⟩:=d
  cases td<;>simp only[Af8,reduceCtorEq] at hk
  obtain⟨dd,hdst,rfl⟩:=yG hk
  simp only[Rd] at hr;subst hr
  have hx:a.eval x=.string ⟨⟨xd⟩⟩:=ex
  obtain⟨e,hse,he⟩:=AN0 h2
  have hrun:=run_bytes_of_string (P:=E.P) w s t e ⟨⟨xd⟩⟩ (AK2 h1) hse (A5b he)
  refine A6V (ob:=.cells (bytesRow ⟨⟨xd⟩⟩ (grownCap w (⟨⟨xd⟩⟩:ByteArray).size 0 e)) e ((bytesRow ⟨⟨xd⟩⟩ (grownCap w (⟨⟨xd⟩⟩:ByteArray).size 0 e)).size,(bytesRow ⟨⟨xd⟩⟩ (grownCap w (⟨⟨xd⟩⟩:ByteArray).size 0 e)).size+1))
   (w':=w.drew.alloc (.cells (bytesRow ⟨⟨xd⟩⟩ (grownCap w (⟨⟨xd⟩⟩:ByteArray).size 0 e)) e ((bytesRow ⟨⟨xd⟩⟩ (grownCap w (⟨⟨xd⟩⟩:ByteArray).size 0 e)).size,(bytesRow ⟨⟨xd⟩⟩ (grownCap w (⟨⟨xd⟩⟩:ByteArray).size 0 e)).size+1)))
   (val:=.slice (some ⟨w.heap.size,0,none⟩) (⟨⟨xd⟩⟩:ByteArray).size (grownCap w (⟨⟨xd⟩⟩:ByteArray).size 0 e)) hc hdst ?_ ⟨rfl,rfl,rfl,rfl⟩ ?_
  ·simp only[execOp,ho,hx,Sem.run_bind]
   exact AX (fun r:Result Value=>Result.andThen r fun v w'=>Result.ok (Next.value v) w') hrun
  ·exact⟨_,Ao0 rfl,by simp[upd,zV,Ty.agg]⟩
end
end Go.Rf

end
section
namespace Go.Rf
set_option linter.unusedSectionVars false
variable [T:Laid]
section
variable {P:Program} {H:Nat→Option (List Value)} {N:Nat} {g g' σ:zW} {V V':Nat→Option Value} {w w':World} {S S':Nat→Prop} {β β':Key→Option Nat} {a:Act} {o:Oper}
variable {E:Env} {gv:zW} {us:List Up}
theorem Ab0 {off:Nat}:∀ {vs:List Value} {k:Nat} {cells:Array Value},off+k+vs.length≤cells.size →
  ((vs.zipIdx k).foldl (fun (cs:Array Value) (x:Value × Nat)=>cs.setIfInBounds (off+x.2) x.1) cells).toList=iM cells.toList (off+k) vs
 | [],k,cells,_=>by simp[iM]
 | v :: vs,k,cells,h=>by
  simp only[B4] at h
  simp only[List.zipIdx_cons,AU]
  rw[Ab0 (by simp;omega)]
  apply AC
  intro j
  rw[jX (by simp;omega),jX (by simp;omega),Array.toList_setIfInBounds,AV]
  simp only[B4]
  by_cases h1:j < off+k
  ·rw[AE (by omega),As (by omega),AE h1]
  ·rw[As h1]
   by_cases h2:j=off+k
   ·subst h2
    rw[AE (by omega),AE rfl,AE (by simp;omega),AE (by omega)]
    simp
   ·have e:j - (off+k)=(j - (off+(k+1)))+1:=by omega
    rw[As (show ¬ j < off+(k+1) by omega),e,AB]
    by_cases h3:j < off+(k+1)+vs.length
    ·rw[AE h3,AE (show j < off+k+(vs.length+1) by omega)]
    ·rw[As h3,As (show ¬ off+k=j by omega),As (show ¬ j < off+k+(vs.length+1) by omega)]
def BJ5 (place:Nat→Option (Nat × Nat)) (i j:Nat):Prop:=∀ o s o' s',place i=some (o,s)→place j=some (o',s')→o+s≤o'∨o'+s'≤o
theorem A2N {place:Nat→Option (Nat × Nat)}:∀ {ps:List (Nat × Value)} {cells:Array Value},(∀ p ∈ ps,∃ off,place p.1=some (off,p.2.cells.size)∧off+p.2.cells.size≤cells.size)→ps.Pairwise (fun p q=>BJ5 place p.1 q.1) →
  ∃ r,BS place cells ps=some r∧r.size=cells.size∧(∀ p ∈ ps,∀ off s,place p.1=some (off,s)→win r.toList off s=p.2.cells.toList) ∧
   (∀ o m,(∀ p ∈ ps,∀ off s,place p.1=some (off,s)→o+m≤off∨off+s≤o)→win r.toList o m=win cells.toList o m)
 | [],cells,_,_=>⟨cells,rfl,rfl,by simp,fun _ _ _=>rfl⟩
 | (i,v) :: ps,cells,h,hp=>by
  obtain⟨off,h1,h2⟩:=h (i,v) (by simp)
  simp only at h1 h2
  rw[BT] at hp
  let c1:=v.cells.zipIdx.foldl (fun (cs:Array Value) (x:Value × Nat)=>cs.setIfInBounds (off+x.2) x.1) cells
  have hc1:c1.toList=iM cells.toList off v.cells.toList:=by
   have:=Ab0 (off:=off) (vs:=v.cells.toList) (k:=0) (cells:=cells) (by simpa using h2)
   rw[Ay] at this
   rw[← this]
   show (v.cells.zipIdx.foldl _ cells).toList=_
   rw[← Bw,Array.toList_zipIdx]
  have hs1:c1.size=cells.size:=by
   have:=AX Ag hc1
   rw[jW (by simpa using h2)] at this
   simpa using this
  obtain⟨r,k1,k2,k3,k4⟩:=A2N (place:=place) (ps:=ps) (cells:=c1) (fun p hpm=>by
   obtain⟨off',e1,e2⟩:=h p (by simp[hpm])
   exact⟨off',e1,by rw[hs1];exact e2⟩) hp.2
  refine⟨r,?_,k2.trans hs1,?_,?_⟩
  ·unfold BS
   rw[h1]
   simp only
   rw[As (by simp;omega)]
   exact k1
  ·intro p hpm off' s hpl
   rcases AO.1 hpm with rfl|hpm
   ·simp only at hpl
    rw[h1] at hpl
    simp only[Aa,Af] at hpl
    obtain⟨rfl,rfl⟩:=hpl
    rw[k4 off v.cells.size (fun q hq o' s' hq'=>hp.1 q hq off _ o' s' h1 hq'),hc1]
    have:=mK (c:=cells.toList) (d:=v.cells.toList) (o:=off) (by simpa using h2)
    simpa using this
   ·exact k3 p hpm off' s hpl
  ·intro oo m hall
   rw[k4 oo m (fun p hpm=>hall p (by simp[hpm])),hc1]
   exact vG (by simpa using h2) (by simpa using hall (i,v) (by simp) off _ h1)
theorem A8B (hs:Sub gv g) {n:Nat} {d:Dat} (hn:(gv n).sv=.dead):Sub gv (upN g n d):=fun i=>by
 by_cases e:i=n
 ·subst e;exact .inl hn
 ·rw[kS e];exact hs i
theorem bE {mv:Bool} {ts:Nat→Option Ty}:∀ {l:List (Nat × Operand)} {g gv:zW} {V:Nat→Option Value} {S:Nat→Prop} {β:Key→Option Nat} {n:Nat} {ds:List (Nat × Dat)} {us:List Up},
  Rel H N g V w S β→Sub gv g→yD N gv→(∀ i,n≤i→(g i).sv=.dead)→N≤n→mD gv mv ts l=some (ds,us) →
  ∃ (S1:Nat→Prop) (β1:Key→Option Nat) (g1:zW) (V1:Nat→Option Value) (cs:List (List Value)),Rel H N g1 V1 w S1 β1∧Step w S β w S1 β1∧Sub (gv.ups us) g1∧yD N (gv.ups us)∧(∀ i,i < N→g1 i=(g.ups us) i∧V1 i=V i)∧(∀ i,N≤i→i < n→g1 i=g i∧V1 i=V i) ∧
   (∀ i,n+ds.length≤i→(g1 i).sv=.dead)∧cs.length=ds.length∧(∀ u ∈ us,u.slot < N) ∧
   ds.map (·.1)=l.map (·.1) ∧
   (∀ j (p:Nat × Dat) (c:List Value),ds[j]?=some p→cs[j]?=some c→(g1 (n+j)).sv=.dat p.2∧V1 (n+j)=some (zV p.2.t c)∧c.length=p.2.t.size∧p.2.f.whole=true ∧
    ∃ x,l[j]?=some x∧((∀ q ∈ l,∀ s,q.2=.tmp s→s < N)→evl V x.2=some (zV p.2.t c)))
 | [],g,gv,V,S,β,n,ds,us,h,hs,hD,hdead,hN,ht=>by
  simp only[mD,Aa,Af] at ht
  obtain⟨rfl,rfl⟩:=ht
  exact⟨S,β,g,V,[],h,.refl,hs,hD,fun _ _=>⟨rfl,rfl⟩,fun _ _ _=>⟨rfl,rfl⟩,by simpa using hdead,rfl,by simp,rfl,by simp⟩
 | (i,x) :: l,g,gv,V,S,β,n,ds,us,h,hs,hD,hdead,hN,ht=>by
  simp only[mD] at ht
  split at ht
  ·rename_i d us1 ht1
   simp only[Ab,Af] at ht
   obtain⟨⟨ds2,us2⟩,ht2,rfl,rfl⟩:=ht
   simp only at *
   obtain⟨ht1',hsub1⟩:=fN hs ht1
   have hnd:=hdead n (Al _)
   have halive:=iG ht1
   have hslot:∀ u ∈ us1,u.slot < N:=fun u hu=>hD.lt (halive u hu)
   have hD1:yD N (gv.ups us1):=hD.ups hslot
   obtain⟨S1,β1,c,k1,k2,k3,k4⟩:=jY h ht1' hnd hN
   have hdead':∀ i,n+1≤i→((upN (g.ups us1) n d) i).sv=.dead:=fun i hi=>by
    rw[kS (by omega)]
    have:∀ (us:List Up) (g:zW),(∀ u ∈ us,u.slot < N)→(g i).sv=.dead→((g.ups us) i).sv=.dead:=by
     intro us
     induction us with
     | nil=>intro g _ h;exact h
     | cons u us ih=>intro g hu h;exact ih (g.up u) (fun v hv=>hu v (by simp[hv])) (by rw[sQ (by have:=hu u (by simp);omega)];exact h)
    exact this us1 g hslot (hdead i (by omega))
   obtain⟨S2,β2,g2,V2,cs,q1,q2,q3,q4,q5,q6,q7,q8,q9,q10,q11⟩:=bE (l:=l) (g:=upN (g.ups us1) n d) (gv:=gv.ups us1) (n:=n+1) k1 (A8B hsub1 (hD1 n hN)) hD1 hdead' (by omega) ht2
   have upsN:∀ (us:List Up) (g:zW) (j:Nat),j≠n→((upN g n d).ups us) j=(g.ups us) j:=by
    intro us
    induction us with
    | nil=>intro g j hj;exact kS hj
    | cons u us ih=>
     intro g j hj
     show (((upN g n d).up u).ups us) j=((g.up u).ups us) j
     have:∀ (g1 g2:zW),(∀ k,k≠n→g1 k=g2 k)→∀ k,k≠n→(g1.ups us) k=(g2.ups us) k:=by
      clear ih
      induction us with
      | nil=>intro g1 g2 h;exact h
      | cons v vs ih2=>
       intro g1 g2 h
       refine ih2 _ _ fun k hk=>?_
       by_cases e:k=v.slot
       ·subst e;rw[pF,pF,h _ hk]
       ·rw[sQ e,sQ e,h _ hk]
     refine this _ _ (fun k hk=>?_) j hj
     by_cases e:k=u.slot
     ·subst e;rw[pF,pF,kS hk]
     ·rw[sQ e,sQ e,kS hk]
   refine⟨S2,β2,g2,V2,c :: cs,q1,k2.trans q2,by rw[yQ];exact q3,by rw[yQ];exact q4,fun j hj=>?_,fun j h1 h2=>?_,fun j hj=>q7 j (by simp at hj ⊢;omega),by simp[q8],?_,by simp[q10],?_⟩
   ·obtain⟨e1,e2⟩:=q5 j hj
    rw[e1,e2,yQ,upsN us2 _ j (by omega)]
    exact⟨rfl,by simp only[upd];rw[As (by omega)]⟩
   ·obtain⟨e1,e2⟩:=q6 j h1 (by omega)
    rw[e1,e2,kS (by omega)]
    have:∀ (us:List Up) (g:zW),(∀ u ∈ us,u.slot < N)→(g.ups us) j=g j:=by
     intro us
     induction us with
     | nil=>intro g _;rfl
     | cons u us ih=>intro g hu;rw[show g.ups (u :: us)=(g.up u).ups us from rfl,ih (g.up u) (fun v hv=>hu v (by simp[hv])),sQ (by have:=hu u (by simp);omega)]
    exact⟨this us1 g hslot,by simp only[upd];rw[As (by omega)]⟩
   ·intro u hu
    rcases List.mem_append.1 hu with hu|hu
    ·exact hslot u hu
    ·exact q9 u hu
   ·intro j p cc hp hc
    cases j with
    | zero=>
     simp only[Ao,Aa] at hp hc
     subst hp;subst hc
     obtain⟨e1,e2⟩:=q6 n hN (by omega)
     refine⟨by rw[Ay,e1,jA],by rw[Ay,e2];simp[upd],k4,AQ8 ht1',(i,x),rfl,fun _=>k3⟩
    | succ j=>
     simp only[AB] at hp hc
     obtain⟨e1,e2,e3,e4,y,e5,e6⟩:=q11 j p cc hp hc
     rw[show n+(j+1)=n+1+j by omega]
     refine⟨e1,e2,e3,e4,y,by simpa using e5,fun hlt=>?_⟩
     have hy:∀ s,y.2=.tmp s→s < N:=hlt y (by simp[Aw e5])
     have:=e6 (fun q hq=>hlt q (by simp[hq]))
     revert this
     cases hyx:y.2 with
     | tmp s=>
      intro this
      simp only[evl,upd] at this ⊢
      rw[As (fun e=>absurd (hy s hyx) (by rw[e];exact Cj.2 hN))] at this;exact this
     | _=>exact fun h=>h
  ·cases ht
end
end Go.Rf

end
section
namespace Go.Rf
set_option linter.unusedSectionVars false
variable [T:Laid]
section
variable {P:Program} {H:Nat→Option (List Value)} {N:Nat} {g g' σ:zW} {V V':Nat→Option Value} {w w':World} {S S':Nat→Prop} {β β':Key→Option Nat} {a:Act} {o:Oper}
variable {E:Env} {gv:zW} {us:List Up}
structure Mover where
 n:Nat
 dst:Key
 d:Dat
 c:List Value
theorem Ah2:∀ {ps:List Mover} {β:Key→Option Nat},Sane w S β→(∀ p ∈ ps,zN S β H w [p.n] p.d.t p.d.f p.d.x p.c) →
  ps.Pairwise (fun p q=>p.n≠q.n∧(∀ s,sA p.dst (q.dst++s)=none)∧∀ s,sA q.dst (p.dst++s)=none)→(∀ p ∈ ps,∀ q ∈ ps,∀ s,sA [p.n] (q.dst++s)=none∧sA q.dst (p.n :: s)=none) →
  ∃ β',Sane w S β'∧Step w S β w S β'∧(∀ k b,(∀ p ∈ ps,sA p.dst k=none∧sA [p.n] k=none)→β k=some b→β' k=some b)∧∀ p ∈ ps,zN S β' H w p.dst p.d.t p.d.f p.d.x p.c
 | [],β,hs,_,_,_=>⟨β,hs,.refl,fun _ _ _ h=>h,by simp⟩
 | p :: ps,β,hs,hv,hp,hn=>by
  rw[BT] at hp
  obtain⟨β',k1,k2,k3,k4⟩:=Ah2 (ps:=ps) (hs.rekey [p.n] p.dst) (fun q hq=>by
   refine zI (fun b hb=>⟨hb,rfl⟩) (fun s b hb=>⟨?_,rfl⟩) (hv q (by simp[hq]))
   have h1:=hp.1 q hq
   rw[xX]
   ·exact hb
   ·exact (hn q (by simp[hq]) p (by simp) s).2
   ·simp[sA,h1.1]) hp.2 (fun q hq r hr=>hn q (by simp[hq]) r (by simp[hr]))
  refine⟨β',k1,(Step.rekey _ _).trans k2,fun k b hk hb=>?_,fun q hq=>?_⟩
  ·refine k3 k b (fun q hq=>hk q (by simp[hq])) ?_
   have:=hk p (by simp)
   rw[xX this.1 this.2];exact hb
  ·rcases AO.1 hq with rfl|hq
   ·refine zI (p:=q.dst) (fun b hb=>⟨hb,rfl⟩) (fun s b hb=>⟨?_,rfl⟩) (qH (hv q (by simp)))
    refine k3 _ b (fun r hr=>⟨(hp.1 r hr).2.2 s,(hn r (by simp[hr]) q (by simp) s).1⟩) hb
   ·exact k4 q hq
def fH (g:zW) (V:Nat→Option Value) (n:Nat) (ds:List (Nat × Dat)) (cs:List (List Value)):Prop:=
 cs.length=ds.length∧∀ j (p:Nat × Dat) (c:List Value),ds[j]?=some p→cs[j]?=some c→(g (n+j)).sv=.dat p.2∧V (n+j)=some (zV p.2.t c)∧c.length=p.2.t.size∧p.2.f.whole=true
def Ai4 (n:Nat) (dst:Nat→Key) (ds:List (Nat × Dat)) (cs:List (List Value)):List Mover:=
 ((ds.zip cs).zipIdx).map fun x=>⟨n+x.2,dst x.1.1.1,x.1.1.2,x.1.2⟩
theorem aR {n:Nat} {dst:Nat→Key} {ds:List (Nat × Dat)} {cs:List (List Value)} {m:Mover} (h:m ∈ Ai4 n dst ds cs):
  ∃ (j:Nat) (p:Nat × Dat) (c:List Value),ds[j]?=some p∧cs[j]?=some c∧m=⟨n+j,dst p.1,p.2,c⟩:=by
 unfold Ai4 at h
 rw[AN] at h
 obtain⟨⟨⟨p,c⟩,j⟩,hx,rfl⟩:=h
 rw[Bp] at hx
 simp only[A6] at hx
 exact⟨j,p,c,hx.1,hx.2,rfl⟩
theorem A3U {n:Nat} {dst:Nat→Key} {ds:List (Nat × Dat)} {cs:List (List Value)} {j:Nat} {p:Nat × Dat} {c:List Value} (h1:ds[j]?=some p) (h2:cs[j]?=some c):
  (⟨n+j,dst p.1,p.2,c⟩:Mover) ∈ Ai4 n dst ds cs:=by
 unfold Ai4
 rw[AN]
 exact⟨((p,c),j),by rw[Bp];simp only[A6];exact⟨h1,h2⟩,rfl⟩
theorem nD:∀ {l:List Nat},oH l=true→l.Nodup
 | [],_=>List.nodup_nil
 | a :: l,h=>by
  simp only[oH,Ad,A8,List.any_eq_false,A3] at h
  exact List.nodup_cons.2 ⟨fun hm=>h.1 a hm rfl,nD h.2⟩
theorem A0j {n d:Nat} {dst:Nat→Key} {ds:List (Nat × Dat)} {cs:List (List Value)} (h:Rel H N g V w S β) (hh:fH g V n ds cs) (hd:d < N) (hN:N≤n) (hnd:oH (ds.map (·.1))=true)
  (hdst:∀ i,∃ k,dst i=d :: k) (hfree:∀ i j s,i≠j→sA (dst i) (dst j++s)=none):
  ∃ β2,Sane w S β2∧Step w S β w S β2∧(∀ j s b,j≠d→j < N→β (j :: s)=some b→β2 (j :: s)=some b) ∧
   ∀ (j:Nat) (p:Nat × Dat) (c:List Value),ds[j]?=some p→cs[j]?=some c→zN S β2 H w (dst p.1) p.2.t p.2.f p.2.x c:=by
 have hnod:=nD hnd
 obtain⟨β2,k1,k2,k3,k4⟩:=Ah2 (H:=H) (ps:=Ai4 n dst ds cs) h.sane (fun m hm=>by
  obtain⟨j,p,c,h1,h2,rfl⟩:=aR hm
  obtain⟨e1,e2,e3,_⟩:=hh.2 j p c h1 h2
  obtain⟨cc,hv,hV⟩:=h.dat e1
  have:=uA (Ap (hV.symm.trans e2)) (zO hv) e3
  subst this;exact hv)
  (by
   unfold Ai4
   rw[B0]
   rw[Au]
   intro i j hi hj hij
   simp only[List.length_zipIdx,BA] at hi hj
   simp only[List.getElem_zipIdx,B5,A2]
   have hne:(ds[i]'(by omega)).1≠(ds[j]'(by omega)).1:=by
    intro e
    have:=(Au.1 hnod) i j (by simp;omega) (by simp;omega) hij
    simp only[AH] at this
    exact this e
   exact⟨by omega,fun s=>hfree _ _ s hne,fun s=>hfree _ _ s (B7 hne)⟩)
  (fun m hm q hq s=>by
   obtain⟨j,p,c,h1,h2,rfl⟩:=aR hm
   obtain⟨j',p',c',h1',h2',rfl⟩:=aR hq
   obtain⟨k,hk⟩:=hdst p'.1
   simp only[hk]
   exact⟨by simp[sA];omega,by simp[sA];intro e;omega⟩)
 refine⟨β2,k1,k2,fun j s b hj hjN hb=>k3 _ b (fun m hm=>?_) hb,fun j p c h1 h2=>k4 _ (A3U h1 h2)⟩
 obtain⟨i,p,c,h1,h2,rfl⟩:=aR hm
 obtain⟨k,hk⟩:=hdst p.1
 simp only[hk]
 exact⟨by simp[sA,B7 hj],by simp[sA];omega⟩
theorem A51 {n:Nat}:∀ {m:Nat} {ds:List (Nat × Dat)} {cs:List (List Value)} {g:zW} {S:Nat→Prop} {β:Key→Option Nat},ds.length=m→Rel H N g V w S β→fH g V n ds cs→N≤n →
  ∃ S1 β1 g1,Rel H N g1 V w S1 β1∧Step w S β w S1 β1∧(∀ i,i < n→g1 i=g i)∧(∀ i,n+m≤i→g1 i=g i)∧fH g1 V n (ds.map fun p=>(p.1,⟨p.2.t,p.2.x,.sh⟩)) cs∧∀ j s b,j < n→β (j :: s)=some b→β1 (j :: s)=some b:=by
 intro m
 induction m with
 | zero=>
  intro ds cs g S β hm h hh hN
  have:ds=[]:=Am.1 hm
  subst this
  exact⟨S,β,g,h,.refl,fun _ _=>rfl,fun _ _=>rfl,by simpa using hh,fun _ _ _ _ h=>h⟩
 | succ m ih=>
  intro ds cs g S β hm h hh hN
  have hds:ds≠[]:=fun e=>by rw[e] at hm;simp at hm
  obtain⟨ds0,p,rfl⟩:∃ l p,ds=l++[p]:=⟨ds.dropLast,ds.getLast hds,(Bq hds).symm⟩
  have hcs:cs≠[]:=fun e=>by have:=hh.1;rw[e] at this;simp at this
  obtain⟨cs0,c,rfl⟩:∃ l p,cs=l++[p]:=⟨cs.dropLast,cs.getLast hcs,(Bq hcs).symm⟩
  have hl0:ds0.length=m:=by simpa using hm
  have hlc:cs0.length=m:=by have:=hh.1;simp at this;omega
  obtain⟨S1,β1,g1,k1,k2,k3,k4,k5,k6⟩:=ih (ds:=ds0) (cs:=cs0) hl0 h ⟨by omega,fun j p c h1 h2=>hh.2 j p c (by rw[A7 (by have:=(Ae.1 h1).1;exact this)];exact h1)
   (by rw[A7 (by have:=(Ae.1 h2).1;exact this)];exact h2)⟩ hN
  obtain⟨e1,e2,e3,e4⟩:=hh.2 m p c (by rw[A4 (by omega)];simp[hl0]) (by rw[A4 (by omega)];simp[hlc])
  have hg1:(g1 (n+m)).sv=.dat p.2:=by rw[k4 _ (by omega)];exact e1
  have hp:=k1.publish (p:=[]) hg1 rfl e4
  refine⟨_,_,_,hp,k2.trans (.pub _ _ _),fun i hi=>?_,fun i hi=>?_,⟨by simp[hl0,hlc],fun j q c' h1 h2=>?_⟩,fun j s b hj hb=>?_⟩
  ·rw[sQ (u:=.pub (n+m) _) (by simp only[Up.slot];omega)];exact k3 i hi
  ·rw[sQ (u:=.pub (n+m) _) (by simp only[Up.slot];omega)];exact k4 i (by omega)
  ·rw[List.map_append,List.map_singleton] at h1
   by_cases hj:j < m
   ·rw[A7 (by simp[hl0,hj])] at h1
    rw[A7 (by omega)] at h2
    rw[sQ (u:=.pub (n+m) _) (by simp only[Up.slot];omega)]
    exact k5.2 j q c' h1 h2
   ·have hjm:j=m:=by
     have:=(Ae.1 h2).1
     simp at this;omega
    subst hjm
    rw[A4 (by simp[hl0])] at h1
    rw[A4 (by omega)] at h2
    simp only[AT,hl0,BX,Ao,Aa,hlc] at h1 h2
    subst h1;subst h2
    refine⟨?_,e2,e3,rfl⟩
    rw[show (g1.up (.pub (n+j) (.dat ⟨p.2.t,p.2.x,kD [] p.2.f .sh⟩))) (n+j)=_ from pF (u:=.pub (n+j) _)]
    rfl
  ·have:=k6 j s b hj hb
   simp only[A3W];rw[As (by omega)];exact this
end
end Go.Rf

end
section
namespace Go.Rf
set_option linter.unusedSectionVars false
variable [T:Laid]
section
variable {P:Program} {H:Nat→Option (List Value)} {N:Nat} {g g' σ:zW} {V V':Nat→Option Value} {w w':World} {S S':Nat→Prop} {β β':Key→Option Nat} {a:Act} {o:Oper}
variable {E:Env} {gv:zW} {us:List Up}
theorem eV {l:List (Nat × Dat)} {i:Nat} {d:Dat} (h:kE l i=some d):∃ (j:Nat) (p:Nat × Dat),l[j]?=some p∧p.1=i∧p.2=d:=by
 unfold kE at h
 rw[Ab] at h
 obtain⟨p,h1,h2⟩:=h
 obtain⟨j,hj⟩:=BI (List.mem_of_find?_eq_some h1)
 have:=List.find?_some h1
 exact⟨j,p,hj,by simpa[A3] using this,h2⟩
theorem cJ {l:List (Nat × Dat)} {i:Nat} (h:kE l i=none):∀ p ∈ l,p.1≠i:=by
 unfold kE at h
 rw[Option.map_eq_none_iff,List.find?_eq_none] at h
 intro p hp e
 exact h p hp (by simp[A3,e])
theorem At9 {t:Ty} {h:Nat→Option Dat}:∀ {n i:Nat} {xs:List t.D},A2U t h i n=some xs→xs.length=n ∧
  ∀ j,j < n→(h (i+j)=none→xs[j]?=some t.dflt)∧∀ d,h (i+j)=some d→∃ x,oV d.t t d.x=some x∧xs[j]?=some x
 | 0,i,xs,hl=>by
  simp only[A2U,Aa] at hl;subst hl
  exact⟨rfl,fun j hj=>by omega⟩
 | n+1,i,xs,hl=>by
  simp only[A2U] at hl
  split at hl
  ·rename_i l hl'
   obtain⟨h1,h2⟩:=At9 hl'
   split at hl
   ·rename_i d hd
    simp only[Ab] at hl
    obtain⟨x,hx,rfl⟩:=hl
    refine⟨by simp[h1],fun j hj=>?_⟩
    cases j with
    | zero=>exact⟨fun e=>by (rw[Ay,hd] at e;cases e),fun d' hd'=>by (rw[Ay,hd] at hd';cases hd';exact⟨x,hx,rfl⟩)⟩
    | succ j=>
     have:=h2 j (by omega)
     rw[show i+1+j=i+(j+1) by omega] at this
     simpa using this
   ·rename_i hd
    simp only[Aa] at hl
    subst hl
    refine⟨by simp[h1],fun j hj=>?_⟩
    cases j with
    | zero=>exact⟨fun _=>rfl,fun d' hd'=>by rw[Ay,hd] at hd';cases hd'⟩
    | succ j=>
     have:=h2 j (by omega)
     rw[show i+1+j=i+(j+1) by omega] at this
     simpa using this
  ·cases hl
def BA1 (f:Fl) (ds:List (Nat × Dat)):List (Nat × Dat):=ds.map fun p=>(p.1,⟨p.2.t,p.2.x,f⟩)
theorem A4j {mv:Bool} {m n:Nat} {τ:Ty} {ds:List (Nat × Dat)} {cs:List (List Value)} {f:Fl} (h:Rel H N g V w S β) (hh:fH g V m ds cs) (hN:N≤m) (hm:A0Q mv n τ ds=some f):
  ∃ S1 β1 g1,Rel H N g1 V w S1 β1∧Step w S β w S1 β1∧(∀ i,i < m→g1 i=g i)∧fH g1 V m (BA1 f ds) cs∧(∀ j s b,j < m→β (j :: s)=some b→β1 (j :: s)=some b)∧(f=.nw mv τ∨(f=.sh∧(Fl.nw mv τ).whole=true)∨(n=1∧ds.length=1)):=by
 have same:(∀ p ∈ ds,p.2.f=f)→fH g V m (BA1 f ds) cs:=fun hf=>by
  have:BA1 f ds=ds:=by
   unfold BA1
   conv=>rhs;rw[← List.map_id ds]
   refine BM fun p hp=>?_
   obtain⟨i,t,x,f'⟩:=p
   have:=hf _ hp
   simp only at this
   subst this;rfl
  rw[this];exact hh
 have pubs:(Fl.nw mv τ).whole=true→f=.sh→∃ S1 β1 g1,Rel H N g1 V w S1 β1∧Step w S β w S1 β1∧(∀ i,i < m→g1 i=g i)∧fH g1 V m (BA1 f ds) cs∧(∀ j s b,j < m→β (j :: s)=some b→β1 (j :: s)=some b)∧(f=.nw mv τ∨(f=.sh∧(Fl.nw mv τ).whole=true)∨(n=1∧ds.length=1)):=by
  intro hw hf
  subst hf
  obtain⟨S1,β1,g1,k1,k2,k3,_,k5,k6⟩:=A51 rfl h hh hN
  exact⟨S1,β1,g1,k1,k2,k3,k5,k6,.inr (.inl ⟨rfl,hw⟩)⟩
 unfold A0Q at hm
 split at hm
 ·rename_i i d
  split at hm
  ·rename_i h1
   simp only[Aa] at hm;subst hm
   exact⟨S,β,g,h,.refl,fun _ _=>rfl,same (by simp),fun _ _ _ _ h=>h,.inr (.inr ⟨by simpa[A3] using h1,rfl⟩)⟩
  ·split at hm
   ·rename_i h2
    simp only[Aa] at hm;subst hm
    exact⟨S,β,g,h,.refl,fun _ _=>rfl,same (by simp),fun _ _ _ _ h=>h,.inl h2⟩
   ·split at hm
    ·rename_i h3
     simp only[Ad,A4J] at h3
     simp only[Aa] at hm
     exact pubs h3.2 hm.symm
    ·cases hm
 ·split at hm
  ·rename_i h2
   simp only[Aa] at hm;subst hm
   exact⟨S,β,g,h,.refl,fun _ _=>rfl,same (fun p hp=>by simpa using AI.1 h2 p hp),fun _ _ _ _ h=>h,.inl rfl⟩
  ·split at hm
   ·rename_i h3
    simp only[Ad,A4J] at h3
    simp only[Aa] at hm
    exact pubs h3.1 hm.symm
   ·cases hm
def gL (ds:List (Nat × Dat)) (cs:List (List Value)):List (Nat × Value):=(ds.zip cs).map fun x=>(x.1.1,zV x.1.2.t x.2)
theorem aS {ds:List (Nat × Dat)} {cs:List (List Value)} {x:Nat × Value} (h:x ∈ gL ds cs):∃ (j:Nat) (p:Nat × Dat) (c:List Value),ds[j]?=some p∧cs[j]?=some c∧x=(p.1,zV p.2.t c):=by
 unfold gL at h
 rw[AN] at h
 obtain⟨⟨p,c⟩,hx,rfl⟩:=h
 obtain⟨j,hj⟩:=BI hx
 simp only[A6] at hj
 exact⟨j,p,c,hj.1,hj.2,rfl⟩
theorem AZ4 {n j:Nat} {ds:List (Nat × Dat)} {cs:List (List Value)} {p:Nat × Dat} {c:List Value} (h:Rel H N g V w S β) (hh:fH g V n ds cs) (h1:ds[j]?=some p) (h2:cs[j]?=some c):
  (zV p.2.t c).cells=c.toArray∧c.length=p.2.t.size:=by
 obtain⟨e1,e2,e3,e4⟩:=hh.2 j p c h1 h2
 obtain⟨cc,hv,hV⟩:=h.dat e1
 have:=uA (Ap (hV.symm.trans e2)) (zO hv) e3
 subst this
 exact⟨dZ e3 (Ap6 e4 hv),e3⟩
theorem A0b {n k d:Nat} {τ:Ty} {mv:Bool} {Z:Array Value} {ds:List (Nat × Dat)} {cs:List (List Value)} {f:Fl} {xs:List τ.D} (h:Rel H N g V w S β) (hh:fH g V n ds cs) (hN:N≤n) (hd:d < N)
  (hnd:oH (ds.map (·.1))=true) (hlt:ds.all (fun x=>Nat.blt x.1 k)=true) (hl:A2U τ (kE ds) 0 k=some xs) (hm:A0Q mv k τ ds=some f) (hzs:Z.size=k * τ.size) (hz:∀ i,i < k→qR τ (win Z.toList (i * τ.size) τ.size)=true):
  ∃ r S1 β1,BS (fun i=>some (i * τ.size,τ.size)) Z (gL ds cs)=some r∧r.size=k * τ.size∧Sane w S1 β1∧Step w S β w S1 β1∧(∀ j s b,j≠d→j < N→β (j :: s)=some b→β1 (j :: s)=some b) ∧
   xs.length=k∧∀ i y,nth xs i=some y→zN S1 β1 H w [d,i] τ f y (win r.toList (i * τ.size) τ.size):=by
 obtain⟨S1,β1,g1,k1,k2,k3,k4,k6,k5⟩:=A4j h hh hN hm
 obtain⟨β2,q1,q2,q3,q4⟩:=A0j (dst:=fun i=>[d,i]) k1 k4 hd hN (by unfold BA1;rw[B8];exact hnd) (fun i=>⟨[i],rfl⟩) (fun i j s hij=>by simp[sA,hij])
 obtain⟨hlen,hget⟩:=At9 hl
 have hty:∀ (j:Nat) (p:Nat × Dat),ds[j]?=some p→p.1 < k∧p.2.t=τ∧kE ds p.1=some p.2:=by
  intro j p hj
  have hlt':p.1 < k:=by
   have:=AI.1 hlt p (Aw hj)
   simpa[B6] using this
  have hp:∃ e,kE ds p.1=some e:=by
   cases he:kE ds p.1 with
   | some e=>exact⟨e,rfl⟩
   | none=>exact absurd rfl (cJ he p (Aw hj))
  obtain⟨e,he⟩:=hp
  obtain⟨j',p',h1,h2,h3⟩:=eV he
  have hjj:p'=p:=by
   have hnod:=nD hnd
   have hi1:=(Ae.1 h1)
   have hi2:=(Ae.1 hj)
   by_cases e':j'=j
   ·subst e';rw[h1] at hj;exact Ap hj
   ·exfalso
    have hpw:=Au.1 hnod
    rcases AQ e' with hlt2|hlt2
    ·have:=hpw j' j (by simp;exact hi1.1) (by simp;exact hi2.1) hlt2
     simp only[AH] at this
     rw[hi1.2,hi2.2] at this;exact this h2
    ·have:=hpw j j' (by simp;exact hi2.1) (by simp;exact hi1.1) hlt2
     simp only[AH] at this
     rw[hi1.2,hi2.2] at this;exact this h2.symm
  subst hjj
  obtain⟨x,hx,_⟩:=(hget p'.1 hlt').2 p'.2 (by rw[A2,he,h3])
  exact⟨hlt',(wX hx).1,by rw[he,h3]⟩
 have hsz:∀ (j:Nat) (p:Nat × Dat) (c:List Value),ds[j]?=some p→cs[j]?=some c→(zV p.2.t c).cells=c.toArray∧c.length=τ.size:=by
  intro j p c h1 h2
  obtain⟨e1,e2⟩:=AZ4 h hh h1 h2
  rw[(hty j p h1).2.1] at e2
  exact⟨e1,e2⟩
 have mulle:∀ i,i < k→i * τ.size+τ.size≤k * τ.size:=fun i hi=>by
  have:(i+1) * τ.size≤k * τ.size:=Ac _ hi
  rw[Ah,Av] at this;exact this
 have mulap:∀ i j,i≠j→i * τ.size+τ.size≤j * τ.size∨j * τ.size+τ.size≤i * τ.size:=fun i j hij=>by
  rcases AQ hij with hl|hl
  ·left
   have:(i+1) * τ.size≤j * τ.size:=Ac _ hl
   rw[Ah,Av] at this;exact this
  ·right
   have:(j+1) * τ.size≤i * τ.size:=Ac _ hl
   rw[Ah,Av] at this;exact this
 obtain⟨r,r1,r2,r3,r4⟩:=A2N (place:=fun i=>some (i * τ.size,τ.size)) (ps:=gL ds cs) (cells:=Z) (fun p hp=>by
  obtain⟨j,q,c,h1,h2,rfl⟩:=aS hp
  obtain⟨e1,e2⟩:=hsz j q c h1 h2
  refine⟨q.1 * τ.size,?_,?_⟩
  ·simp only[e1];simp[e2]
  ·simp only[e1,hzs];simp only[AW,e2];exact mulle _ (hty j q h1).1) (by
  unfold gL
  rw[B0,Au]
  intro i j hi hj hij
  simp only[BA] at hi hj
  simp only[B5]
  have hne:(ds[i]'(by omega)).1≠(ds[j]'(by omega)).1:=by
   intro e
   have:=(Au.1 (nD hnd)) i j (by simp;omega) (by simp;omega) hij
   simp only[AH] at this
   exact this e
  intro o1 s1 o2 s2 h1 h2
  simp only[Aa,Af] at h1 h2
  obtain⟨rfl,rfl⟩:=h1
  obtain⟨rfl,rfl⟩:=h2
  exact mulap _ _ hne)
 refine⟨r,S1,β2,r1,by rw[r2,hzs],q1,k2.trans q2,fun j s b hj hjN hb=>?_,hlen,fun i y hy=>?_⟩
 ·exact q3 j s b hj hjN (k6 j s b (by omega) hb)
 ·have hi:i < k:=by unfold nth at hy;have:=(Ae.1 hy).1;omega
  cases hp:kE ds i with
  | some e=>
   obtain⟨j,p,h1,h2,h3⟩:=eV hp
   have hjc:∃ c,cs[j]?=some c:=by
    have:=(Ae.1 h1).1
    exact⟨cs[j]'(by rw[hh.1];exact this),A1 _⟩
   obtain⟨c,hc⟩:=hjc
   obtain⟨e1,e2⟩:=hsz j p c h1 hc
   have hwin:=r3 (p.1,zV p.2.t c) (by
    unfold gL
    rw[AN]
    refine⟨(p,c),?_,rfl⟩
    exact Aw (i:=j) (by simp only[A6];exact⟨h1,hc⟩)) (p.1 * τ.size) τ.size rfl
   simp only[e1,h2] at hwin
   rw[hwin]
   have hv:=q4 j (p.1,⟨p.2.t,p.2.x,f⟩) c (by unfold BA1;rw[AD,h1];rfl) hc
   simp only[h2] at hv
   obtain⟨x,hx,hxi⟩:=(hget i hi).2 e (by rw[A2];exact hp)
   have hyx:y=x:=by
    unfold nth at hy
    rw[hxi] at hy;exact (Ap hy).symm
   subst hyx
   subst h3
   obtain⟨pi,pt,px,pf⟩:=p
   simp only at hv hx h2
   obtain⟨het,hex⟩:=wX hx
   subst het
   subst hex
   simpa using hv
  | none=>
   have hnone:=cJ hp
   have hyd:y=τ.dflt:=by
    have:=(hget i hi).1 (by rw[A2];exact hp)
    unfold nth at hy
    rw[this] at hy;exact (Ap hy).symm
   subst hyd
   have hwin:=r4 (i * τ.size) τ.size (fun p hpm off s hpl=>by
    obtain⟨j,q,c,h1,h2,rfl⟩:=aS hpm
    simp only[Aa,Af] at hpl
    obtain⟨rfl,rfl⟩:=hpl
    exact mulap _ _ (B7 (hnone q (Aw h1))))
   rw[hwin]
   have hzv:=rM (S:=S1) (β:=fun _=>none) (H:=H) (w:=w) (k:=[d,i]) mv (hz i hi)
   rcases k5 with e|⟨e,hw⟩| ⟨e1,e2⟩
   ·subst e
    exact rM mv (hz i hi)
   ·subst e
    exact yO.2 (wY hw (fun _ h=>h) (fun _ _ hb=>by cases hb) hzv)
   ·exfalso
    obtain⟨p,hpd⟩:=List.length_eq_one_iff.1 e2
    have h0:=hty 0 p (by rw[hpd];rfl)
    have:i=0:=by omega
    exact hnone p (by rw[hpd];simp) (by omega)
end
end Go.Rf

end
section
namespace Go.Rf
set_option linter.unusedSectionVars false
variable [T:Laid]
section
variable {P:Program} {H:Nat→Option (List Value)} {N:Nat} {g g' σ:zW} {V V':Nat→Option Value} {w w':World} {S S':Nat→Prop} {β β':Key→Option Nat} {a:Act} {o:Oper}
variable {E:Env} {gv:zW} {us:List Up}
theorem A8F (hs:Sub gv g) (hD:yD N g):yD N gv:=fun i hi=>by
 rcases hs i with h|h
 ·exact h
 ·rw[← h];exact hD i hi
theorem Ai8 {s:Nat}:∀ {l:List Operand},.tmp s ∈ l→s ∈ AE5 l
 | [],h=>by simp at h
 | x :: l,h=>by
  rcases AO.1 h with h|h
  ·subst h;simp[AE5]
  ·have:=Ai8 h
   cases x<;>simp[AE5,this]
theorem A7o {n s:Nat} (h:opIn n o=true) (hs:.tmp s ∈ o.op.operands.toList):s < n:=by
 unfold opIn at h
 simp only[Ad] at h
 have:=AI.1 h.2 s (Ai8 hs)
 simpa[B6] using this
theorem cC {mv:Bool} {ts:Nat→Option Ty} {ps:Array (Nat × Operand)} {ds:List (Nat × Dat)} (hc:Ctx P H S β a w o g) (hs:Sub gv g) (ht:mD gv mv ts ps.toList=some (ds,us))
  (hin:∀ q ∈ ps.toList,q.2 ∈ o.op.operands.toList):
  ∃ (S1:Nat→Prop) (β1:Key→Option Nat) (g1:zW) (V1:Nat→Option Value) (cs:List (List Value)),Rel H a.tmps.size g1 V1 w S1 β1∧Step w S β w S1 β1∧fH g1 V1 a.tmps.size ds cs ∧
   Rel H a.tmps.size (g.ups us) (qD a) w S1 β1∧yD a.tmps.size (g.ups us)∧(ps.map fun (i,x)=>(i,a.eval x)).toList=gL ds cs:=by
 obtain⟨S1,β1,g1,V1,cs,k1,k2,k3,k4,k5,k6,k7,k8,k9,k10,k11⟩:=bE hc.rel hs (A8F hs hc.dead) (fun i hi=>hc.dead i hi) (Al _) ht
 have hD:yD a.tmps.size (g.ups us):=hc.dead.ups k9
 refine⟨S1,β1,g1,V1,cs,k1,k2,⟨k8,fun j p c h1 h2=>let ⟨e1,e2,e3,e4,_⟩:=k11 j p c h1 h2;⟨e1,e2,e3,e4⟩⟩,k1.fin (fun i hi=>(k5 i hi).1.symm) hD (fun i hi=>(k5 i hi).2.symm),hD,?_⟩
 rw[AY]
 apply AC
 intro j
 unfold gL
 rw[AD,AD]
 cases hp:ds[j]? with
 | none=>
  have hlen:ds.length=ps.toList.length:=by have:=AX Ag k10;simpa using this
  have h1:ps.toList[j]?=none:=by rw[By] at hp ⊢;omega
  have h2:(ds.zip cs)[j]?=none:=by rw[By] at hp ⊢;simp;omega
  rw[h1,h2];rfl
 | some p=>
  have hj:=(Ae.1 hp).1
  have hc':cs[j]?=some (cs[j]'(by omega)):=A1 _
  obtain⟨e1,e2,e3,e4,x,e5,e6⟩:=k11 j p _ hp hc'
  have h2:(ds.zip cs)[j]?=some (p,cs[j]'(by omega)):=by simp only[A6];exact⟨hp,hc'⟩
  rw[e5,h2]
  simp only[Bb]
  have hx1:x.1=p.1:=by
   have:=AX (fun l=>l[j]?) k10
   simp only[AD,hp,e5,Bb,Aa] at this
   exact this.symm
  have:=zH (e6 (fun q hq s hqs=>A7o hc.opIn (hqs▸hin q hq)))
  rw[hx1,this]
theorem Aa3 {t e:TypeId} {τ:Ty} {z:Value} {n:Nat} {parts:Array (Nat × Value)} {r:Array Value} (h:SlOK E t e τ z) (hn:n * τ.size≤16777216)
  (hf:BS (fun i=>some (i * τ.size,τ.size)) (kO z.cells (n * τ.size)) parts.toList=some r):
  (Ca t n parts).run E.P w=.ok (.slice (some ⟨w.heap.size,0,none⟩) n n) { w with heap:=w.heap.push (.cells r e) }:=by
 have hsz:(sizeOf e).run E.P w=.ok τ.size w:=uF h.elem
 unfold Ca
 simp only[Sem.run_bind,zC h.und,Result.andThen_ok,hsz]
 rw[As (by omega)]
 by_cases h0:n * τ.size=0
 ·have e0:kO z.cells 0=#[]:=by simp[kO]
  rw[h0,e0] at hf
  have e2:Cp (fun (_:Nat)=>(default:Value)) (BH 0)=#[]:=by simp
  simp[h0,newRow]
  rw[e2,hf]
  simp
 ·have:((BH (n * τ.size)).map fun x=>z.cells[x % z.cells.size]!)=kO z.cells (n * τ.size):=rfl
  simp only[h0,if_false,Sem.run_bind,h.zero,Result.andThen_ok,Sem.run_pure,this,hf,newRow,run_newObj]
theorem AQ0 {mv:Bool} {t:TypeId} {n:Nat} {ps:Array (Nat × Operand)} (hc:Ctx E.P H S β a w o g) (hs:Sub gv g) (hm:o.op=.buildSlice t n ps)
  (hk:mZ E gv mv o t n ps some=some us):yF E.P H S β a w o (g.ups us):=by
 unfold mZ at hk
 split at hk
 ·rename_i τ ht
  split at hk
  ·rename_i ds us1 htp
   split at hk
   ·rename_i hcond
    simp only[Ad,BQ] at hcond
    obtain⟨⟨hnd,hlt⟩,hsmall⟩:=hcond
    split at hk
    ·rename_i xs f hl hmf
     obtain⟨dd,ho,rfl⟩:=yG hk
     obtain⟨τ2,e,z,heq,hok⟩:=A2s ht
     simp only[Ty.sl.injEq] at heq
     subst heq
     obtain⟨S1,β1,g1,V1,cs,k1,k2,k3,k4,k5,k6⟩:=cC hc hs htp (fun q hq=>by rw[hm];simp only[Cf,AY];exact AN.2 ⟨q,hq,rfl⟩)
     have hd:=xF hc.opIn ho
     obtain⟨r,S2,β2,q1,q2,q3,q4,q5,q6,q7⟩:=A0b (d:=dd) (Z:=kO z.cells (n * τ.size)) k1 k3 (Al _) hd hnd hlt hl hmf iK (fun i hi=>by rw[← hok.size,A0g hi];exact hok.cells)
     have hrun:=Aa3 (w:=w) (parts:=ps.map fun (i,x)=>(i,a.eval x)) hok hsmall (by rw[k6];exact q1)
     have hw':Pushed w { w with heap:=w.heap.push (.cells r e) } (.cells r e):=⟨rfl,rfl,rfl,rfl⟩
     have hsame:=(k2.trans q4).same hc.rel.sane
     intro K Q hK
     refine uH (w':={ w with heap:=w.heap.push (.cells r e) }) (v:=.slice (some ⟨w.heap.size,0,none⟩) n n) ?_ (hK _ _ S2 _ wG yN ?_ ((k2.trans q4).trans (Step.newB hw' [dd])))
     ·simp only[execOp,hm,Sem.run_bind]
      exact AX (fun r:Result Value=>Result.andThen r fun v w'=>Result.ok (Next.value v) w') hrun
     ·rw[ho,vE hd,yQ]
      have hst:=q4.same k4.sane
      refine k4.put (q3.new hw' [dd]) (fun b hb=>⟨(hst b hb).1,uW hw' (k4.sane.liveS b hb)⟩) (fun j s b hj ha hb=>⟨?_,uW hw' (k4.sane.live _ b hb)⟩) (fun j hj=>by simp[upd,hj]) ?_
      ·unfold AQ6;rw[As (by simp[hj])]
       exact q5 j s b hj (k5.lt ha) hb
      ·refine⟨[.slice (some ⟨w.heap.size,0,none⟩) n n],?_,by simp[upd,zV,Ty.agg]⟩
       simp only[zN,Fl.base]
       refine⟨by simp[pN,Fl.pins],some ⟨w.heap.size,0,none⟩,n,by rw[q6],by rw[q6];exact Al _,.inr ⟨w.heap.size,0,r,rfl,by simp[AQ6],AC1.new hw' (.inl rfl),by rw[q2];omega,fun i y hy=>?_⟩⟩
       rw[A2]
       refine zI (fun b hb=>⟨hb,uW hw' (q3.liveS b hb)⟩) (fun s b hb=>⟨?_,uW hw' (q3.live _ b hb)⟩) (q7 i y hy)
       unfold AQ6;rw[As (by simp)];exact hb
    ·cases hk
   ·cases hk
  ·cases hk
 ·cases hk
end
end Go.Rf

end
section
namespace Go.Rf
set_option linter.unusedSectionVars false
variable [T:Laid]
section
variable {P:Program} {H:Nat→Option (List Value)} {N:Nat} {g g' σ:zW} {V V':Nat→Option Value} {w w':World} {S S':Nat→Prop} {β β':Key→Option Nat} {a:Act} {o:Oper}
variable {E:Env} {gv:zW} {us:List Up}
def A48 (i:Nat):Key:=Bu i 1
theorem A6p {i:Nat}:A48 (i+1)=A48 i++[1]:=by simp[A48,List.replicate_succ']
theorem Aj5:∀ {i j:Nat} {s:Key},i≠j→sA (A48 i++[0]) (A48 j++[0]++s)=none
 | 0,0,_,h=>absurd rfl h
 | 0,j+1,s,_=>by simp[A48,Bs,sA]
 | i+1,0,s,_=>by simp[A48,Bs,sA]
 | i+1,j+1,s,h=>by
  have:=Aj5 (i:=i) (j:=j) (s:=s) (by omega)
  simp only[A48,Bs,A5,sA,Az] at this ⊢
  exact this
theorem Ap4 {c:List Value} {o n m:Nat}:(win c o (n+m)).take n=win c o n:=by
 simp[win,List.take_take]
theorem Aq6 {c:List Value} {o n m:Nat}:(win c o (n+m)).drop n=win c (o+n) m:=by
 simp only[win,Ci,BG]
 congr 1
 omega
theorem AR9 {mv:Bool} {h:Nat→Option Dat} {zc rc:List Value} {K0:Key} {ty:TypeId→Option Ty}:∀ {fs:List Field} {off:Nat} {τ:Ty} {i:Nat} {x:τ.D} {f:Fl},qU ty fs off=some τ→AH9 mv τ i h=some (x,f) →
  qR τ (win zc off τ.size)=true →
  (∀ (j:Nat) (fl:Field) (a:Ty),fs[j]?=some fl→ty fl.type=some a→(∀ d x,h (i+j)=some d→oV d.t a d.x=some x→zN S β H w (K0++A48 (i+j)++[0]) a d.f x (win rc fl.offset a.size))∧(h (i+j)=none→win rc fl.offset a.size=win zc fl.offset a.size)) →
  zN S β H w (K0++A48 i) τ f x (win rc off τ.size)
 | [],off,τ,i,x,f,hc,hb,hz,hp=>by
  simp only[qU,Aa] at hc;subst hc
  simp only[AH9,Aa,Af] at hb
  obtain⟨rfl,rfl⟩:=hb
  exact yO.2 (by simp[Rd,win,Ty.size])
 | fl :: fs,off,τ,i,x,f,hc,hb,hz,hp=>by
  simp only[qU] at hc
  split at hc
  ·rename_i a ha
   split at hc
   ·rename_i ho
    simp only[A3] at ho
    simp only[Ab] at hc
    obtain⟨τ',hc,rfl⟩:=hc
    simp only[AH9] at hb
    split at hb
    ·rename_i y gf hb'
     simp only[qR,Ty.size,Ad] at hz
     rw[Ap4,Aq6] at hz
     have ih:=AR9 hc hb' hz.2 (fun j fl' a' h1 h2=>by
      have:=hp (j+1) fl' a' (by simpa using h1) h2
      rw[show i+(j+1)=i+1+j by omega] at this
      exact this)
     rw[A6p,← List.append_assoc] at ih
     have h0:=hp 0 fl a rfl ha
     rw[Ay,ho] at h0
     split at hb
     ·rename_i d hd
      simp only[Ab,Af] at hb
      obtain⟨x0,hx0,rfl,rfl⟩:=hb
      refine sW.2 ⟨?_,?_⟩
      ·simp only[Ty.size];rw[Ap4];exact h0.1 d x0 hd hx0
      ·simp only[Ty.size];rw[Aq6];exact ih
     ·rename_i hd
      simp only[Aa,Af] at hb
      obtain⟨rfl,rfl⟩:=hb
      refine sW.2 ⟨?_,?_⟩
      ·simp only[Ty.size];rw[Ap4,h0.2 hd];exact rM mv hz.1
      ·simp only[Ty.size];rw[Aq6];exact ih
    ·cases hb
   ·cases hc
  ·cases hc
theorem AY0 {ty:TypeId→Option Ty}:∀ {fs:List Field} {off:Nat} {τ:Ty} {i:Nat} {a:Ty},qU ty fs off=some τ→hU τ i=some a →
  ∃ fl,fs[i]?=some fl∧ty fl.type=some a∧off≤fl.offset∧fl.offset+a.size≤off+τ.size
 | [],off,τ,i,a,hc,hf=>by
  simp only[qU,Aa] at hc;subst hc
  simp[hU] at hf
 | fl :: fs,off,τ,i,a,hc,hf=>by
  simp only[qU] at hc
  split at hc
  ·rename_i a0 ha
   split at hc
   ·rename_i ho
    simp only[A3] at ho
    simp only[Ab] at hc
    obtain⟨τ',hc,rfl⟩:=hc
    cases i with
    | zero=>
     simp only[hU,Aa] at hf;subst hf
     exact⟨fl,rfl,ha,by omega,by simp only[Ty.size];omega⟩
    | succ i=>
     simp only[hU] at hf
     obtain⟨fl',h1,h2,h3,h4⟩:=AY0 hc hf
     exact⟨fl',by simpa using h1,h2,by omega,by simp only[Ty.size];omega⟩
   ·cases hc
  ·cases hc
theorem fU {ty:TypeId→Option Ty}:∀ {fs:List Field} {off:Nat} {τ:Ty} {i j:Nat} {fi fj:Field} {ai:Ty},qU ty fs off=some τ→i < j→fs[i]?=some fi→fs[j]?=some fj→ty fi.type=some ai→fi.offset+ai.size≤fj.offset
 | [],_,_,_,_,_,_,_,_,_,h,_,_=>by simp at h
 | fl :: fs,off,τ,i,j,fi,fj,ai,hc,hij,hi,hj,ha=>by
  simp only[qU] at hc
  split at hc
  ·rename_i a0 ha0
   split at hc
   ·rename_i ho
    simp only[A3] at ho
    simp only[Ab] at hc
    obtain⟨τ',hc,rfl⟩:=hc
    cases j with
    | zero=>omega
    | succ j=>
     simp only[AB] at hj
     cases i with
     | zero=>
      simp only[Ao,Aa] at hi;subst hi
      rw[ha0] at ha;cases ha
      have:∀ {fs:List Field} {off:Nat} {τ:Ty} {j:Nat} {fj:Field},qU ty fs off=some τ→fs[j]?=some fj→off≤fj.offset:=by
       intro fs
       induction fs with
       | nil=>intro off τ j fj _ h;simp at h
       | cons f0 fs ih=>
        intro off τ j fj hc h
        simp only[qU] at hc
        split at hc
        ·split at hc
         ·rename_i ho
          simp only[A3] at ho
          simp only[Ab] at hc
          obtain⟨τ',hc,rfl⟩:=hc
          cases j with
          | zero=>simp only[Ao,Aa] at h;subst h;omega
          | succ j=>have:=ih hc (by simpa using h);omega
         ·cases hc
        ·cases hc
      have:=this hc hj
      omega
     | succ i=>exact fU (i:=i) (j:=j) hc (by omega) (by simpa using hi) hj ha
   ·cases hc
  ·cases hc
theorem AR6 {d:Nat}:∀ {fs:List Field} {off:Nat} {τ:Ty},qU (tyN P (d+1)) fs off=some τ→∃ pl:List (Nat × Nat),fs.mapM (fun f=>(P.info? f.type).map fun i=>(f.offset,i.size))=some pl ∧
  ∀ (j:Nat) (fl:Field) (a:Ty),fs[j]?=some fl→tyN P (d+1) fl.type=some a→pl[j]?=some (fl.offset,a.size)
 | [],_,_,_=>⟨[],by simp,by simp⟩
 | fl :: fs,off,τ,hc=>by
  simp only[qU] at hc
  split at hc
  ·rename_i a0 ha0
   split at hc
   ·simp only[Ab] at hc
    obtain⟨τ',hc,rfl⟩:=hc
    obtain⟨pl,h1,h2⟩:=AR6 hc
    obtain⟨i,u,e1,_,e3,_⟩:=pD ha0
    refine⟨(fl.offset,i.size) :: pl,by simp[List.mapM_cons,e1,h1],fun j f a hj ha=>?_⟩
    cases j with
    | zero=>
     simp only[Ao,Aa] at hj ⊢;subst hj
     rw[ha0] at ha;cases ha;rw[e3]
    | succ j=>simpa using h2 j f a (by simpa using hj) ha
   ·cases hc
  ·cases hc
end
end Go.Rf

end
section
namespace Go.Rf
set_option linter.unusedSectionVars false
variable [T:Laid]
section
variable {P:Program} {H:Nat→Option (List Value)} {N:Nat} {g g' σ:zW} {V V':Nat→Option Value} {w w':World} {S S':Nat→Prop} {β β':Key→Option Nat} {a:Act} {o:Oper}
variable {E:Env} {gv:zW} {us:List Up}
theorem Ah0 {ρ:Operand→Value} {t:TypeId} {ps:Array (Nat × Operand)} {r:Array Value} {l:List (Nat × Value)} (ho:o.op=.build t ps) (hl:(ps.map fun (i,x)=>(i,ρ x)).toList=l) (hb:P.built t l=some r):
  (execOp ρ o).run P w=.ok (.value (.agg r)) w:=by
 have:=run_build (P:=P) w t (ps.map fun (i,x)=>(i,ρ x)) r (by rw[hl];exact hb)
 simp only[execOp,ho,Sem.run_bind]
 exact AX (fun r:Result Value=>Result.andThen r fun v w'=>Result.ok (Next.value v) w') this
theorem A6D {t:TypeId} {τ:Ty} (h:E.tz t=some τ):∃ it z,E.P.info? t=some it∧it.zero=some z∧qR τ z.cells.toList=true:=by
 unfold Env.tz at h
 split at h
 ·split at h
  ·rename_i hz
   simp only[Aa] at h;subst h
   unfold Env.zok at hz
   split at hz
   ·rename_i i hi
    split at hz
    ·rename_i v hv
     exact⟨i,v,hi,hv,hz⟩
    ·cases hz
   ·cases hz
  ·cases h
 ·cases h
theorem Az6 {d:Nat} {t:Ty} {x:t.D} {f:Fl} {r:Array Value} {S1 S2:Nat→Prop} {β1 β2:Key→Option Nat} (hc:Ctx P H S β a w o g) (ho:o.dst=some d) (hr:(execOp a.eval o).run P w=.ok (.value (.agg r)) w) (hag:t.agg=true)
  (h:Rel H a.tmps.size (g.ups us) (qD a) w S1 β1) (hD:yD a.tmps.size (g.ups us)) (hst:Step w S β w S1 β1) (hs:Sane w S2 β2) (hst2:Step w S1 β1 w S2 β2)
  (hβ:∀ j s b,j≠d→j < a.tmps.size→β1 (j :: s)=some b→β2 (j :: s)=some b) (hv:zN S2 β2 H w [d] t f x r.toList):yF P H S β a w o (g.ups (us++[.put d (.dat ⟨t,x,f⟩)])):=by
 intro K Q hK
 have hd:=xF hc.opIn ho
 refine uH hr (hK _ _ S2 β2 wG yN ?_ (hst.trans hst2))
 rw[ho,vE hd,yQ]
 refine h.put hs (fun b hb=>⟨hst2.keepS b hb,rfl⟩) (fun j s b hj ha hb=>⟨hβ j s b hj (hD.lt ha) hb,rfl⟩) (fun j hj=>by simp[upd,hj]) ⟨r.toList,hv,?_⟩
 simp[upd,zV,hag]
theorem A0O {mv:Bool} {t:TypeId} {ps:Array (Nat × Operand)} (hc:Ctx E.P H S β a w o g) (hs:Sub gv g) (hm:o.op=.build t ps)
  (hk:Ai5 E gv mv o t ps some=some us):yF E.P H S β a w o (g.ups us):=by
 have hops:∀ q ∈ ps.toList,q.2 ∈ o.op.operands.toList:=fun q hq=>by rw[hm];simp only[Cf,AY];exact AN.2 ⟨q,hq,rfl⟩
 unfold Ai5 at hk
 split at hk
 ·rename_i n τ ht
  obtain⟨it,z,hit,hz,hzc⟩:=A6D ht
  have hty:=(A5k ht).1
  split at hk
  ·rename_i ds us1 htp
   split at hk
   ·rename_i hcond
    simp only[Ad] at hcond
    obtain⟨hnd,hlt⟩:=hcond
    split at hk
    ·rename_i xs f hl hmf
     obtain⟨dd,ho,rfl⟩:=yG hk
     obtain⟨e,he,h7⟩:=Ab5 hty
     obtain⟨ie,u,h71,_,h73,_⟩:=pD h7
     simp only[qR] at hzc
     obtain⟨hz1,hz2⟩:=As2 (fun c hc=>zO (rM (S:=fun _=>False) (β:=fun _=>none) (H:=fun _=>none) (w:=w) false (k:=[]) hc)) hzc
     obtain⟨S1,β1,g1,V1,cs,k1,k2,k3,k4,k5,k6⟩:=cC hc hs htp hops
     have hd:=xF hc.opIn ho
     obtain⟨r,S2,β2,q1,q2,q3,q4,q5,q6,q7⟩:=A0b (d:=dd) (Z:=z.cells) k1 k3 (Al _) hd hnd hlt hl hmf (by simpa using hz1) hz2
     have hbuilt:E.P.built t (gL ds cs)=some r:=by
      unfold Program.built
      rw[hit,he]
      simp only[hz,h71,h73]
      exact q1
     refine Az6 hc ho (Ah0 hm k6 hbuilt) rfl k4 k5 k2 q3 q4 q5 (aJ.2 ⟨q6,by simpa using q2,fun i y hy=>q7 i y hy⟩)
    ·cases hk
   ·cases hk
  ·cases hk
 ·rename_i τ hnot ht
  obtain⟨it,z,hit,hz,hzc⟩:=A6D ht
  have hty:=(A5k ht).1
  split at hk
  ·rename_i ds us1 htp
   split at hk
   ·rename_i hcond
    simp only[Ad] at hcond
    obtain⟨hnd,hfld⟩:=hcond
    split at hk
    ·rename_i x f hb
     obtain⟨dd,ho,rfl⟩:=yG hk
     have hstruct:∃ fs,E.P.underlying t=some (.struct fs)∧qU (tyN E.P 7) fs.toList 0=some τ∧τ.agg=true:=by
      obtain⟨i,u,_,h2,_,h4⟩:=pD hty
      unfold pI at h4
      have nob:∀ τ:Ty,(∀ a b,τ≠.pair a b)→τ≠.unit→∀ (x:τ.D) f,AH9 mv τ 0 (kE ds)≠some (x,f):=fun τ h1 h2 x f e=>by
       cases τ<;>simp[AH9] at e<;>first|exact h2 rfl|exact h1 _ _ rfl
      cases u<;>simp only at h4<;>first
       | (exfalso;exact h4)
       | (subst h4;exact absurd hb (nob _ (by simp) (by simp) _ _))
       | (obtain⟨a,_,rfl⟩:=h4;exact absurd hb (nob _ (by simp) (by simp) _ _))
       | (refine⟨_,h2,h4,?_⟩;rcases qG h4 with rfl|⟨_,_,rfl⟩<;>rfl)
     obtain⟨fs,hfs,hch,hag⟩:=hstruct
     obtain⟨S1,β1,g1,V1,cs,k1,k2,k3,k4,k5,k6⟩:=cC hc hs htp hops
     have hd:=xF hc.opIn ho
     obtain⟨pl,hpl1,hpl2⟩:=AR6 (d:=6) hch
     have hzl:z.cells.toList.length=τ.size:=zO (rM (S:=fun _=>False) (β:=fun _=>none) (H:=fun _=>none) (w:=w) false (k:=[]) hzc)
     have buildT:∀ {τ:Ty} {i j:Nat} {x:τ.D} {f:Fl} {a:Ty} {d:Dat},AH9 mv τ i (kE ds)=some (x,f)→hU τ j=some a→kE ds (i+j)=some d→d.t=a:=by
      intro τ
      induction τ with
      | pair s u _ ihu=>
       intro i j x f a d hb hf hp
       simp only[AH9] at hb
       split at hb
       ·rename_i y gf hb'
        cases j with
        | zero=>
         simp only[hU,Aa] at hf;subst hf
         rw[Ay] at hp
         rw[hp] at hb
         simp only[Ab] at hb
         obtain⟨x0,hx0,_⟩:=hb
         exact (wX hx0).1
        | succ j=>
         simp only[hU] at hf
         exact ihu hb' hf (by rw[show i+1+j=i+(j+1) by omega];exact hp)
       ·cases hb
      | _=>intro i j x f a d hb hf hp;simp[hU] at hf
     have hpart:∀ (j:Nat) (p:Nat × Dat),ds[j]?=some p→kE ds p.1=some p.2:=by
      intro j p hj
      cases he:kE ds p.1 with
      | none=>exact absurd rfl (cJ he p (Aw hj))
      | some e=>
       obtain⟨j',p',h1,h2,h3⟩:=eV he
       have hi1:=(Ae.1 h1)
       have hi2:=(Ae.1 hj)
       have hpw:=Au.1 (nD hnd)
       by_cases e':j'=j
       ·subst e';rw[h1] at hj;cases hj;rw[h3]
       ·exfalso
        rcases AQ e' with hlt2|hlt2
        ·have:=hpw j' j (by simp;exact hi1.1) (by simp;exact hi2.1) hlt2
         simp only[AH] at this
         rw[hi1.2,hi2.2] at this;exact this h2
        ·have:=hpw j j' (by simp;exact hi2.1) (by simp;exact hi1.1) hlt2
         simp only[AH] at this
         rw[hi1.2,hi2.2] at this;exact this h2.symm
     have hfield:∀ (j:Nat) (p:Nat × Dat),ds[j]?=some p→∃ fl,fs.toList[p.1]?=some fl∧tyN E.P 7 fl.type=some p.2.t∧fl.offset+p.2.t.size≤τ.size∧pl[p.1]?=some (fl.offset,p.2.t.size):=by
      intro j p hj
      have:=AI.1 hfld p (Aw hj)
      obtain⟨a0,ha0⟩:=B3.1 this
      have hta:=buildT hb ha0 (by rw[A2];exact hpart j p hj)
      rw[← hta] at ha0
      obtain⟨fl,h1,h2,_,h4⟩:=AY0 hch ha0
      exact⟨fl,h1,h2,by omega,hpl2 _ fl _ h1 h2⟩
     obtain⟨β2,q1,q2,q3,q4⟩:=A0j (dst:=fun i=>dd :: (A48 i++[0])) k1 k3 hd (Al _) hnd (fun i=>⟨_,rfl⟩) (fun i j s hij=>by
      have:=Aj5 (s:=s) hij
      simp only[A5,sA,Az]
      exact this)
     have hone:∀ (j:Nat) (p:Nat × Dat) (c:List Value),ds[j]?=some p→cs[j]?=some c→(zV p.2.t c).cells=c.toArray∧c.length=p.2.t.size:=fun j p c h1 h2=>AZ4 k1 k3 h1 h2
     obtain⟨r,r1,r2,r3,r4⟩:=A2N (place:=(pl.toArray[·]?)) (ps:=gL ds cs) (cells:=z.cells) (fun p hp=>by
      obtain⟨j,q,c,h1,h2,rfl⟩:=aS hp
      obtain⟨e1,e2⟩:=hone j q c h1 h2
      obtain⟨fl,f1,f2,f3,f4⟩:=hfield j q h1
      refine⟨fl.offset,?_,?_⟩
      ·simp only[e1];simpa[e2] using f4
      ·simp only[e1];simp only[AW,e2]
       have:z.cells.size=τ.size:=by simpa using hzl
       omega) (by
      unfold gL
      rw[B0,Au]
      intro i j hi hj hij
      simp only[BA] at hi hj
      simp only[B5]
      have hne:(ds[i]'(by omega)).1≠(ds[j]'(by omega)).1:=by
       intro e
       have:=(Au.1 (nD hnd)) i j (by simp;omega) (by simp;omega) hij
       simp only[AH] at this
       exact this e
      obtain⟨fl,f1,f2,f3,f4⟩:=hfield i (ds[i]'(by omega)) (A1 _)
      obtain⟨fl',f1',f2',f3',f4'⟩:=hfield j (ds[j]'(by omega)) (A1 _)
      intro o1 s1 o2 s2 h1 h2
      simp only[AK] at h1 h2
      rw[f4] at h1
      rw[f4'] at h2
      simp only[Aa,Af] at h1 h2
      obtain⟨rfl,rfl⟩:=h1
      obtain⟨rfl,rfl⟩:=h2
      rcases AQ hne with hl|hl
      ·exact .inl (fU hch hl f1 f1' f2)
      ·exact .inr (fU hch hl f1' f1 f2'))
     have hbuilt:E.P.built t (gL ds cs)=some r:=by
      unfold Program.built
      rw[hit,hfs]
      simp only[hz,hpl1]
      exact r1
     have hwz:win z.cells.toList 0 τ.size=z.cells.toList:=by rw[← hzl];exact fG _
     have hrl:r.toList.length=τ.size:=by rw[← hzl];simpa using r2
     have hv:=AR9 (S:=S1) (β:=β2) (H:=H) (w:=w) (mv:=mv) (zc:=z.cells.toList) (rc:=r.toList) (K0:=[dd]) (i:=0) hch hb (by rw[hwz];exact hzc) (fun j fl a hj ha=>by
      rw[A2]
      refine⟨fun d x hd' hx=>?_,fun hnone=>?_⟩
      ·obtain⟨j',p,h1,h2,h3⟩:=eV hd'
       have hjc:∃ c,cs[j']?=some c:=by
        have:=(Ae.1 h1).1
        exact⟨cs[j']'(by rw[k3.1];exact this),A1 _⟩
       obtain⟨c,hcc⟩:=hjc
       obtain⟨e1,e2⟩:=hone j' p c h1 hcc
       obtain⟨fl',f1,f2,f3,f4⟩:=hfield j' p h1
       rw[h2] at f1 f4
       rw[hj] at f1
       cases f1
       rw[ha] at f2
       have hta:a=p.2.t:=Ap f2
       have hwin:=r3 (p.1,zV p.2.t c) (by
        unfold gL
        rw[AN]
        refine⟨(p,c),?_,rfl⟩
        exact Aw (i:=j') (by simp only[A6];exact⟨h1,hcc⟩)) fl.offset p.2.t.size (by simpa[h2] using f4)
       simp only[e1] at hwin
       have hvp:=q4 j' p c h1 hcc
       simp only[h2] at hvp
       subst h3
       obtain⟨pi,pt,px,pf⟩:=p
       simp only at *
       subst hta
       obtain⟨het,hex⟩:=wX hx
       rw[hwin]
       have hxe:x=px:=by rw[hex]
       rw[hxe]
       simpa using hvp
      ·refine r4 _ _ (fun p hpm off s hpls=>?_)
       obtain⟨j',q,c,h1,h2,rfl⟩:=aS hpm
       obtain⟨fl',f1,f2,f3,f4⟩:=hfield j' q h1
       simp only[AK] at hpls
       rw[f4] at hpls
       simp only[Aa,Af] at hpls
       obtain⟨rfl,rfl⟩:=hpls
       have hne:q.1≠j:=cJ hnone q (Aw h1)
       rcases AQ hne with hl|hl
       ·exact .inr (fU hch hl f1 hj f2)
       ·exact .inl (fU hch hl hj f1 ha))
     rw[show win r.toList 0 τ.size=r.toList by rw[← hrl];exact fG _] at hv
     exact Az6 hc ho (Ah0 hm k6 hbuilt) hag k4 k5 k2 q1 q2 q3 (by simpa[A48] using hv)
    ·cases hk
   ·cases hk
  ·cases hk
 ·cases hk
end
end Go.Rf

end
section
namespace Go.Rf
set_option linter.unusedSectionVars false
variable [T:Laid]
section
variable {S:Nat→Prop} {β:Key→Option Nat} {H:Nat→Option (List Value)} {w w':World} {b₀ o₀ o len cap:Nat} {cd:List Value}
structure Behind (S:Nat→Prop) (β:Key→Option Nat) (w w':World) (kp:Key) (b₀ o₀:Nat) (cd:List Value):Prop where
 chg:Chg w w' b₀ o₀ cd
 own:∀ key,β key=some b₀→key=kp
 nS:¬ S b₀
theorem Behind.keep {kp:Key} (h:Behind S β w w' kp b₀ o₀ cd):∀ b,S b→S b∧w'.heap[b]?=w.heap[b]?:=fun b hb=>⟨hb,h.chg.other b fun e=>h.nS (e▸hb)⟩
theorem Behind.aside {kp k:Key} (h:Behind S β w w' kp b₀ o₀ cd) (hk:∀ s,k++s≠kp):∀ s b,β (k++s)=some b→β (k++s)=some b∧w'.heap[b]?=w.heap[b]?:=fun s b hb=>
 ⟨hb,h.chg.other b fun e=>hk s (h.own _ (e▸hb))⟩
theorem aW:∀ {p:List PS} {t:Ty} {f:Fl} {x:t.D} {k:Key} {L:Loc} {c:List Value} {τ:Ty} {xs:List τ.D} {g:Fl} {L':Loc},
  yJ p t f x=some ⟨.sl τ,xs,g⟩→g.base=.own .sh→inB p t x→zD w t.size L=some c→zN S β H w k t f x c→vF w t L p=some (.sl τ,L')→zD w 1 L'=some [.slice (some ⟨b₀,o,none⟩) len cap]→o+len * τ.size≤o₀ →
  Behind S β w w' (k++xA p) b₀ o₀ cd→zN S β H w' k t f x c
 | [],t,f,x,k,L,c,τ,xs,g,L',hg,hgb,hb,hc,hv,hw,hL,ho,hB=>by
  simp only[yJ,Aa] at hg
  cases hg
  simp only[vF,Aa,Af,AS] at hw
  subst hw
  have hcl:=oS hc
  simp only[Ty.size] at hc
  rw[hL] at hc
  simp only[Aa] at hc
  subst hc
  simp only[zN] at hv ⊢
  refine⟨hv.1,?_⟩
  replace hv:=hv.2
  rw[hgb] at hv ⊢
  obtain⟨ad,cap',e,hlc,hv⟩:=hv
  simp only[Ak,AM,Bg] at e
  obtain⟨rfl,rfl,rfl⟩:=e
  refine⟨_,_,rfl,hlc,hv.imp id ?_⟩
  rintro⟨b,oo,cs,e,hk,hob,hz,hv⟩
  simp only[Aa,Co,Bg] at e
  obtain⟨rfl,rfl⟩:=e
  obtain⟨cs',hB',hz',hcs,hle⟩:=hB.chg.size hob
  refine⟨_,_,cs',rfl,hk,hB',by rw[hz'];exact hz,fun i y hy=>?_⟩
  have hi:i < Ag xs:=by unfold nth at hy;exact (Ae.1 hy).1
  have hlt:(i+1) * τ.size≤Ag xs * τ.size:=Ac _ hi
  rw[Ah,Av] at hlt
  rw[hcs,vG (by simpa using hle) (.inl (by omega))]
  have:=hv i y hy
  rw[yO] at this ⊢
  exact zM hB.keep this
 | .fst :: p,.pair s u,f,x,k,L,c,τ,xs,g,L',hg,hgb,hb,hc,hv,hw,hL,ho,hB=>by
  simp only[yJ] at hg
  have hne:=qN hg (by rw[hgb];simp)
  have hpar:=wJ hv
  have h1:=hpar.1
  rw[qO] at h1
  have hkey:k++xA (.fst :: p)=(k++[0])++xA p:=by simp[xA]
  have ih:=aW hg hgb (by simpa[inB] using hb) (zU (i:=0) (m:=s.size) hc (by simp[Ty.size])) h1 (by simpa[vF,xJ] using hw) hL ho (hkey▸hB)
  rw[← qO] at ih
  have h2:=zI hB.keep (hB.aside (k:=k++[1]) (fun q=>by simp[xA])) hpar.2
  rcases AU0 hne with hf|⟨f1,f2,hf⟩
  ·have:=lN (p:=p) (by rw[mQ,hf];rfl) hg
   rw[hgb] at this;cases this
  ·simp only[zN] at hv ⊢
   refine⟨hv.1,?_⟩
   rw[mQ,hf] at ih
   rw[mO,hf] at h2
   rw[hf];exact⟨ih,h2⟩
 | .snd :: p,.pair s u,f,x,k,L,c,τ,xs,g,L',hg,hgb,hb,hc,hv,hw,hL,ho,hB=>by
  simp only[yJ] at hg
  have hne:=qN hg (by rw[hgb];simp)
  have hpar:=wJ hv
  have hl:=zO hv
  have h1:=hpar.2
  rw[qS (by simpa[Ty.size] using hl)] at h1
  have hkey:k++xA (.snd :: p)=(k++[1])++xA p:=by simp[xA]
  have ih:=aW hg hgb (by simpa[inB] using hb) (zU (i:=s.size) (m:=u.size) hc (by simp[Ty.size])) h1 (by simpa[vF,xJ] using hw) hL ho (hkey▸hB)
  rw[← qS (by simpa[Ty.size] using hl)] at ih
  have h2:=zI hB.keep (hB.aside (k:=k++[0]) (fun q=>by simp[xA])) hpar.1
  rcases AT7 hne with hf|⟨f1,f2,hf⟩
  ·have:=lN (p:=p) (by rw[mO,hf];rfl) hg
   rw[hgb] at this;cases this
  ·simp only[zN] at hv ⊢
   refine⟨hv.1,?_⟩
   rw[mO,hf] at ih
   rw[mQ,hf] at h2
   rw[hf];exact⟨h2,ih⟩
 | .der :: p,.ptr t,f,x,k,L,c,τ,xs,g,L',hg,hgb,hb,hc,hv,hw,hL,ho,hB=>by
  simp only[yJ] at hg
  have hne:=qN hg (by rw[hgb];simp)
  rcases sV hne with hf|⟨e,hf⟩
  ·have:=lN (p:=p) (by rw[qF,hf];rfl) hg
   rw[hgb] at this;cases this
  ·simp only[zN] at hv ⊢
   refine⟨hv.1,?_⟩
   replace hv:=hv.2
   rw[hf] at hv ⊢
   obtain⟨b,cs,rfl,hk,hob,hz,hv⟩:=hv
   have hbb:b≠b₀:=fun e'=>by
    have:=hB.own _ (e' ▸ hk)
    simp[xA] at this
   refine⟨b,cs,rfl,hk,hob.same (hB.chg.other b hbb),hz,?_⟩
   simp only[Ty.size] at hc
   simp only[vF,xJ,hc] at hw
   have hc':=zJ (o:=0) (n:=t.size) hob.blk (by omega)
   have:win cs.toList 0 t.size=cs.toList:=by rw[← hz,← A'];exact fG _
   rw[this] at hc'
   have hkey:k++xA (.der :: p)=(k++[0])++xA p:=by simp[xA]
   rw[qF,hf] at hg
   exact aW hg hgb (by simpa[inB] using hb) hc' hv hw hL ho (hkey▸hB)
 | .idx i :: p,.arr n t,f,x,k,L,c,τ,xs,g,L',hg,hgb,hb,hc,hv,hw,hL,ho,hB=>by
  simp only[yJ] at hg
  simp only[inB] at hb
  have hne:=qN hg (by rw[hgb];simp)
  obtain⟨hx,hcl,hel⟩:=mU hne hv
  rcases AS1 hne with hf|⟨e,hf⟩
  ·have:=lN (p:=p) (by rw[cN,hf];rfl) hg
   rw[hgb] at this;cases this
  ·have hkey:k++xA (.idx i :: p)=(k++[i])++xA p:=by simp[xA]
   have hlt:(i+1) * t.size≤n * t.size:=Ac _ hb.1
   rw[Ah] at hlt
   simp only[zN] at hv ⊢
   refine⟨hv.1,?_⟩
   rw[hf]
   refine⟨hx,hcl,fun j y hy=>?_⟩
   have hel':=hel j y hy
   rw[cN,hf] at hel'
   simp only[Fl.a] at hel'
   by_cases hij:j=i
   ·subst hij
    have hyd:y=A9 x j t.dflt:=by
     have:=sZ (z:=t.dflt) (show j < Ag x by omega)
     rw[hy] at this;exact Ap this
    subst hyd
    simp only[vF,xJ,hb.1,Az] at hw
    rw[cN,hf] at hg
    exact aW hg hgb hb.2 (zU (i:=j * t.size) (m:=t.size) hc (by simp only[Ty.size];omega)) hel' hw hL ho (hkey▸hB)
   ·exact zI hB.keep (hB.aside (k:=k++[j]) (fun q=>by simp[xA,hij])) hel'
 | .elm i :: p,.sl t,f,x,k,L,c,τ,xs,g,L',hg,hgb,hb,hc,hv,hw,hL,ho,hB=>by
  simp only[yJ] at hg
  simp only[inB] at hb
  have hne:=qN hg (by rw[hgb];simp)
  rcases sV hne with hf|⟨e,hf⟩
  ·have:=lN (p:=p) (by rw[qF,hf];rfl) hg
   rw[hgb] at this;cases this
  ·have hkey:k++xA (.elm i :: p)=(k++[i])++xA p:=by simp[xA]
   simp only[zN] at hv ⊢
   refine⟨hv.1,?_⟩
   replace hv:=hv.2
   rw[hf] at hv ⊢
   obtain⟨ad,cap',rfl,hlc,hv⟩:=hv
   refine⟨ad,cap',rfl,hlc,hv.imp id ?_⟩
   rintro⟨b,oo,cs,rfl,hk,hob,hz,hv⟩
   have hbb:b≠b₀:=fun e'=>by
    have:=hB.own _ (e' ▸ hk)
    simp[xA] at this
   refine⟨b,oo,cs,rfl,hk,hob.same (hB.chg.other b hbb),hz,fun j y hy=>?_⟩
   by_cases hij:j=i
   ·subst hij
    have hyd:y=A9 x j t.dflt:=by
     have:=sZ (z:=t.dflt) hb.1
     rw[hy] at this;exact Ap this
    subst hyd
    simp only[Ty.size] at hc
    simp only[vF,xJ,hc,hb.1,Az] at hw
    rw[qF,hf] at hg
    have hlt:(j+1) * t.size≤cap' * t.size:=Ac _ (by have:=hb.1;omega)
    rw[Ah] at hlt
    exact aW hg hgb hb.2 (zJ (o:=oo+j * t.size) (n:=t.size) hob.blk (by omega)) (hv j _ hy) hw hL ho (hkey▸hB)
   ·exact zI hB.keep (hB.aside (k:=k++[j]) (fun q=>by simp[xA,hij])) (hv j y hy)
theorem aY:∀ {q p:List PS} {t:Ty} {f:Fl} {x:t.D} {k:Key} {L:Loc} {c:List Value} {τ:Ty} {xs:List τ.D} {g:Fl} {L':Loc} {d:Dat},
  yJ q t f x=some d→d.f.base≠.gone→inB q t x →
  yJ p t f x=some ⟨.sl τ,xs,g⟩→g.base=.own .sh→inB p t x→zD w t.size L=some c→zD w' t.size L=some c→zN S β H w k t f x c→vF w t L p=some (.sl τ,L')→zD w 1 L'=some [.slice (some ⟨b₀,o,none⟩) len cap]→o+len * τ.size≤o₀ →
  Behind S β w w' (k++xA p) b₀ o₀ cd →
  ∃ Lq cq,vF w t L q=some (d.t,Lq)∧vF w' t L q=some (d.t,Lq)∧zD w d.t.size Lq=some cq∧zD w' d.t.size Lq=some cq
 | [],p,t,f,x,k,L,c,τ,xs,g,L',d,hq,hqn,hqb,hg,hgb,hb,hc,hcc,hv,hw,hL,ho,hB=>by
  simp only[yJ,Aa] at hq;subst hq
  exact⟨L,c,rfl,rfl,hc,hcc⟩
 | s :: q,[],t,f,x,k,L,c,τ,xs,g,L',d,hq,hqn,hqb,hg,hgb,hb,hc,hcc,hv,hw,hL,ho,hB=>by
  simp only[yJ,Aa] at hg
  cases hg
  simp only[vF,Aa,Af,AS] at hw
  subst hw
  cases s<;>simp only[yJ,reduceCtorEq] at hq
  rename_i i
  simp only[inB] at hqb
  have hne:f.e.base≠.gone:=qN hq hqn
  obtain⟨b,oo,cs,m,cap',rfl,him,hs,hBl,hz,hv'⟩:=Ao5 hne hv (sZ (z:=τ.dflt) hqb.1)
  simp only[Ty.size] at hc hcc
  rw[hL] at hc
  simp only[Aa,Ak,AM,Co,Bg] at hc
  obtain⟨⟨rfl,rfl⟩,rfl,rfl⟩:=hc
  have hxl:len=Ag xs:=by
   simp only[zN] at hv
   replace hv:=hv.2
   rw[hgb] at hv
   obtain⟨ad,cp,e,_⟩:=hv
   simp only[Ak,AM,Bg] at e
   exact e.2.1
  rw[Ah,Av] at hz
  have hlt:(i+1) * τ.size≤len * τ.size:=Ac _ him
  rw[Ah,Av] at hlt
  obtain⟨cs1,e1,fz1,cs1',t1,t2,t3,t4⟩:=hB.chg.this
  have hcs:cs=cs1:=hBl.inj ⟨e1,fz1,t1⟩
  subst hcs
  have hsz:cs1'.size=cs.size:=by
   have:=AX Ag t3
   rw[jW (by simpa using t4)] at this
   simpa using this
  have hc1:=zJ (o:=o+i * τ.size) (n:=τ.size) hBl (by omega)
  have hc2:zD w' τ.size (.mem b₀ (o+i * τ.size))=some (win cs.toList (o+i * τ.size) τ.size):=by
   rw[zJ (o:=o+i * τ.size) (n:=τ.size) ⟨e1,fz1,t2⟩ (by omega),t3,vG (by simpa using t4) (.inl (by omega))]
  obtain⟨Lq,cq,h1,h2,h3,h4,_⟩:=rO (fun b hb=>(hB.keep b hb).2) (k:=k++[i]) (fun s b hb=>(hB.aside (k:=k++[i]) (fun q=>by simp[xA]) s b hb).2) hq hqb.2 hqn hc1 hc2 hv'
  exact⟨Lq,cq,by simp only[vF,xJ,hL,him,Az];exact h1,by simp only[vF,xJ,hcc,him,Az];exact h2,h3,h4⟩
 | r :: q,s :: p,t,f,x,k,L,c,τ,xs,g,L',d,hq,hqn,hqb,hg,hgb,hb,hc,hcc,hv,hw,hL,ho,hB=>by
  cases r<;>cases t<;>cases s<;>(try simp only[yJ,reduceCtorEq] at hq)<;>(try simp only[yJ,reduceCtorEq] at hg)
  case fst.pair.fst=>
   rename_i a b
   have h1:=(wJ hv).1
   rw[qO] at h1
   obtain⟨Lq,cq,k1,k2,k3,k4⟩:=aY (k:=k++[0]) hq hqn (by simpa[inB] using hqb) hg hgb (by simpa[inB] using hb) (zU (i:=0) (m:=a.size) hc (by simp[Ty.size])) (zU (i:=0) (m:=a.size) hcc (by simp[Ty.size])) h1 (by simpa[vF,xJ] using hw) hL ho (by simpa[xA] using hB)
   exact⟨Lq,cq,by simpa[vF,xJ] using k1,by simpa[vF,xJ] using k2,k3,k4⟩
  case snd.pair.snd=>
   rename_i a b
   have hl:=zO hv
   have h1:=(wJ hv).2
   rw[qS (by simpa[Ty.size] using hl)] at h1
   obtain⟨Lq,cq,k1,k2,k3,k4⟩:=aY (k:=k++[1]) hq hqn (by simpa[inB] using hqb) hg hgb (by simpa[inB] using hb) (zU (i:=a.size) (m:=b.size) hc (by simp[Ty.size])) (zU (i:=a.size) (m:=b.size) hcc (by simp[Ty.size])) h1 (by simpa[vF,xJ] using hw) hL ho (by simpa[xA] using hB)
   exact⟨Lq,cq,by simpa[vF,xJ] using k1,by simpa[vF,xJ] using k2,k3,k4⟩
  case fst.pair.snd=>
   rename_i a b
   have h1:=(wJ hv).1
   rw[qO] at h1
   obtain⟨Lq,cq,k1,k2,k3,k4,_⟩:=rO (fun b hb=>(hB.keep b hb).2) (k:=k++[0]) (fun s b hb=>(hB.aside (k:=k++[0]) (fun q=>by simp[xA]) s b hb).2) hq (by simpa[inB] using hqb) hqn (zU (i:=0) (m:=a.size) hc (by simp[Ty.size])) (zU (i:=0) (m:=a.size) hcc (by simp[Ty.size])) h1
   exact⟨Lq,cq,by simpa[vF,xJ] using k1,by simpa[vF,xJ] using k2,k3,k4⟩
  case snd.pair.fst=>
   rename_i a b
   have hl:=zO hv
   have h1:=(wJ hv).2
   rw[qS (by simpa[Ty.size] using hl)] at h1
   obtain⟨Lq,cq,k1,k2,k3,k4,_⟩:=rO (fun b hb=>(hB.keep b hb).2) (k:=k++[1]) (fun s b hb=>(hB.aside (k:=k++[1]) (fun q=>by simp[xA]) s b hb).2) hq (by simpa[inB] using hqb) hqn (zU (i:=a.size) (m:=b.size) hc (by simp[Ty.size])) (zU (i:=a.size) (m:=b.size) hcc (by simp[Ty.size])) h1
   exact⟨Lq,cq,by simpa[vF,xJ] using k1,by simpa[vF,xJ] using k2,k3,k4⟩
  case der.ptr.der=>
   rename_i t
   have hne:=qN hg (by rw[hgb];simp)
   rcases sV hne with hf|⟨e,hf⟩
   ·have:=lN (p:=p) (by rw[qF,hf];rfl) hg
    rw[hgb] at this;cases this
   ·have hv0:=hv
    simp only[zN] at hv0
    replace hv0:=hv0.2
    rw[hf] at hv0
    obtain⟨b,cs,rfl,hk,hob,hz,hv1⟩:=hv0
    have hbb:b≠b₀:=fun e'=>by
     have:=hB.own _ (e' ▸ hk)
     simp[xA] at this
    simp only[Ty.size] at hc hcc
    simp only[vF,xJ,hc] at hw
    have hc':=zJ (o:=0) (n:=t.size) hob.blk (by omega)
    have hcc':=zJ (w:=w') (o:=0) (n:=t.size) (hob.same (hB.chg.other b hbb)).blk (by omega)
    have:win cs.toList 0 t.size=cs.toList:=by rw[← hz,← A'];exact fG _
    rw[this] at hc' hcc'
    rw[qF,hf] at hg hq
    obtain⟨Lq,cq,k1,k2,k3,k4⟩:=aY (k:=k++[0]) hq hqn (by simpa[inB] using hqb) hg hgb (by simpa[inB] using hb) hc' hcc' hv1 hw hL ho (by simpa[xA] using hB)
    exact⟨Lq,cq,by simp only[vF,xJ,hc];exact k1,by simp only[vF,xJ,hcc];exact k2,k3,k4⟩
  case idx.arr.idx=>
   rename_i i n t j
   simp only[inB] at hqb hb
   have hne:=qN hg (by rw[hgb];simp)
   obtain⟨hx,hcl,hel⟩:=mU hne hv
   have hlt:(i+1) * t.size≤n * t.size:=Ac _ hqb.1
   rw[Ah] at hlt
   have hc1:=zU (i:=i * t.size) (m:=t.size) hc (by simp only[Ty.size];omega)
   have hc2:=zU (i:=i * t.size) (m:=t.size) hcc (by simp only[Ty.size];omega)
   have hvi:=hel i _ (sZ (z:=t.dflt) (by omega))
   by_cases hij:i=j
   ·subst hij
    simp only[vF,xJ,hb.1,Az] at hw
    obtain⟨Lq,cq,k1,k2,k3,k4⟩:=aY (k:=k++[i]) hq hqn hqb.2 hg hgb hb.2 hc1 hc2 hvi hw hL ho (by simpa[xA] using hB)
    exact⟨Lq,cq,by simp only[vF,xJ,hqb.1,Az];exact k1,by simp only[vF,xJ,hqb.1,Az];exact k2,k3,k4⟩
   ·obtain⟨Lq,cq,k1,k2,k3,k4,_⟩:=rO (fun b hb=>(hB.keep b hb).2) (k:=k++[i]) (fun s b hb=>(hB.aside (k:=k++[i]) (fun q=>by simp[xA,hij]) s b hb).2) hq hqb.2 hqn hc1 hc2 hvi
    exact⟨Lq,cq,by simp only[vF,xJ,hqb.1,Az];exact k1,by simp only[vF,xJ,hqb.1,Az];exact k2,k3,k4⟩
  case elm.sl.elm=>
   rename_i i t j
   simp only[inB] at hqb hb
   have hne:=qN hg (by rw[hgb];simp)
   rcases sV hne with hf|⟨e,hf⟩
   ·have:=lN (p:=p) (by rw[qF,hf];rfl) hg
    rw[hgb] at this;cases this
   ·have hv0:=hv
    simp only[zN] at hv0
    replace hv0:=hv0.2
    rw[hf] at hv0
    obtain⟨ad,cap',rfl,hlc,hv0⟩:=hv0
    rcases hv0 with hv0|⟨b,oo,cs,rfl,hk,hob,hz,hv1⟩
    ·have:=hqb.1;omega
    ·have hbb:b≠b₀:=fun e'=>by
      have:=hB.own _ (e' ▸ hk)
      simp[xA] at this
     simp only[Ty.size] at hc hcc
     simp only[vF,xJ,hc,hb.1,Az] at hw
     rw[qF,hf] at hg hq
     have hlt:(i+1) * t.size≤cap' * t.size:=Ac _ (by have:=hqb.1;omega)
     rw[Ah] at hlt
     have hc1:=zJ (o:=oo+i * t.size) (n:=t.size) hob.blk (by omega)
     have hc2:=zJ (w:=w') (o:=oo+i * t.size) (n:=t.size) (hob.same (hB.chg.other b hbb)).blk (by omega)
     have hvi:=hv1 i _ (sZ (z:=t.dflt) hqb.1)
     by_cases hij:i=j
     ·subst hij
      obtain⟨Lq,cq,k1,k2,k3,k4⟩:=aY (k:=k++[i]) hq hqn hqb.2 hg hgb hb.2 hc1 hc2 hvi hw hL ho (by simpa[xA] using hB)
      exact⟨Lq,cq,by simp only[vF,xJ,hc,hqb.1,Az];exact k1,by simp only[vF,xJ,hcc,hqb.1,Az];exact k2,k3,k4⟩
     ·obtain⟨Lq,cq,k1,k2,k3,k4,_⟩:=rO (fun b hb=>(hB.keep b hb).2) (k:=k++[i]) (fun s b hb=>(hB.aside (k:=k++[i]) (fun q=>by simp[xA,hij]) s b hb).2) hq hqb.2 hqn hc1 hc2 hvi
      exact⟨Lq,cq,by simp only[vF,xJ,hc,hqb.1,Az];exact k1,by simp only[vF,xJ,hcc,hqb.1,Az];exact k2,k3,k4⟩
end
end Go.Rf

end
section
namespace Go.Rf
set_option linter.unusedSectionVars false
variable [T:Laid]
section
variable {P:Program} {S:Nat→Prop} {β:Key→Option Nat} {H:Nat→Option (List Value)} {w w':World} {E:Env}
def A1J (P:Program) (w:World) (t':TypeId) (size:Nat) (z:Array Value) (vy:Value) (m:Nat) (cy:List Value):Prop:=
 (∃ u,P.underlying t'=some u∧(∀ k,u≠.int k)∧(∀ w',(Bl vy).run P w'=.ok m w')∧∀ w',w'.heap=w.heap→(Ai size m vy).run P w'=.ok cy.toArray w') ∨
 (P.underlying t'=some (.int .i64)∧vy=.int .i64 m∧m≤1099511627776∧cy=(kO z (m * size)).toList)
theorem mF {z:Array Value} {n:Nat}:BY z n=kO z (n * z.size):=rfl
theorem Ak0 {b m:Nat} (hb:b≤128) (hm:m≤1099511627776):¬ ((m:Int) * (b:Int) > 2 ^ 48):=by
 have:m * b≤1099511627776 * 128:=Ck hm hb
 rw[← Int.natCast_mul]
 omega
theorem jJ {t t' ty e:TypeId} {τ:Ty} {z:Value} {vy:Value} {m len cap:Nat} {cy:List Value} {base:Option Addr} (h:SlOK E t e τ z) (ha:A1J E.P w t' τ.size z.cells vy m cy) (hroom:len+m≤cap)
  (hst:∀ a,base=some a→(storeCells (a.add (len * τ.size)) cy 0).run E.P w=.ok () w') (hno:base=none→w'=w):
  (At #[t,t'] ty #[.slice base len cap,vy]).run E.P w=.ok (.slice base (len+m) cap) w':=by
 obtain⟨i,hi,hb⟩:=h.bytes
 have hsz:(sizeOf e).run E.P w=.ok τ.size w:=uF h.elem
 rcases ha with ⟨u,hu,hni,hl,hf⟩| ⟨hu,rfl,hm,rfl⟩
 ·skip
  have hf':=hf w rfl
  cases base with
  | none=>
   have:=hno rfl
   subst this
   simp[At,zC h.und,zC hu,hsz,hl,hroom,hf']
  | some a=>
   have:=hst a rfl
   simp[At,zC h.und,zC hu,hsz,hl,hroom,hf',this]
 ·have hw:IntKind.i64.wrap (m:Int)=m:=AB0 (by omega) (by omega)
  have hmul:=Ak0 hb hm
  have hzs:=h.size
  have e0:kO z.cells 0=#[]:=by simp[kO]
  have hn0:¬ ((m:Int) < 0):=by omega
  have hn1:¬ (281474976710656 < (m:Int) * (i.bytes:Int)):=by omega
  cases base with
  | none=>
   have:=hno rfl
   subst this
   by_cases h0:m * τ.size=0
   ·simp[At,zC h.und,zC hu,hsz,hroom,asInt,asIntOf,hw,vK hi,hn0,hn1,h0]
   ·simp[At,zC h.und,zC hu,hsz,hroom,asInt,asIntOf,hw,vK hi,hn0,hn1,h0,h.zero]
  | some a=>
   have hsa:=hst a rfl
   by_cases h0:m * τ.size=0
   ·rw[h0,e0] at hsa
    simp only[Array.toList_empty] at hsa
    simp[At,zC h.und,zC hu,hsz,hroom,asInt,asIntOf,hw,vK hi,hn0,hn1,h0,hsa]
   ·have hzc:BY z.cells m=kO z.cells (m * τ.size):=by rw[mF,hzs]
    simp[At,zC h.und,zC hu,hsz,hroom,asInt,asIntOf,hw,vK hi,hn0,hn1,h0,h.zero,hzc,hsa]
theorem AF5 {t t' ty e:TypeId} {τ:Ty} {z:Value} {vy:Value} {m len cap:Nat} {cy co:List Value} {base:Option Addr} (h:SlOK E t e τ z) (ha:A1J E.P w t' τ.size z.cells vy m cy) (hroom:¬ len+m≤cap) (hlen:len+m≤1099511627776)
  (hold:∀ w',w'.heap=w.heap→(Ai τ.size len (.slice base len cap)).run E.P w'=.ok co.toArray w'):
  ∃ nc w',len+m≤nc∧(At #[t,t'] ty #[.slice base len cap,vy]).run E.P w=.ok (.slice (some ⟨w.heap.size,0,none⟩) (len+m) nc) w'∧Pushed w w' (.cells (co.toArray++(cy.toArray++kO z.cells ((nc - (len+m)) * τ.size))) e):=by
 obtain⟨i,hi,hb⟩:=h.bytes
 have hsz:∀ w,(sizeOf e).run E.P w=.ok τ.size w:=fun w=>uF h.elem
 have h63:¬ (9223372036854775807 < ((len:Int)+(m:Int))):=by omega
 have hfit:=growslice_fits (need:=len+m) (old:=cap) (bytes:=i.bytes) (by omega) (by
  have:(len+m) * i.bytes≤1099511627776 * 128:=Ck hlen hb
  omega)
 have h48:¬ (281474976710656 < Builtin.nextslicecap (len+m) cap * i.bytes):=by omega
 refine⟨grownCap w (len+m) cap e,w.drew.alloc (.cells (co.toArray++(cy.toArray++kO z.cells ((grownCap w (len+m) cap e - (len+m)) * τ.size))) e),grownCap_ge _ _ _ _,?_,rfl,rfl,rfl,rfl⟩
 have hold':=hold w.drew rfl
 have hzs:=h.size
 rcases ha with ⟨u,hu,hni,hl,hf⟩| ⟨hu,rfl,hm,rfl⟩
 ·skip
  have hf':=hf w.drew rfl
  simp[At,zC h.und,zC hu,hsz,hl,hroom,vK hi,h63,h48,BB,hold',hf',h.zero,newRow,grownCap,mF,hzs]
 ·have hw:IntKind.i64.wrap (m:Int)=m:=AB0 (by omega) (by omega)
  have hmul:=Ak0 hb hm
  have hn0:¬ ((m:Int) < 0):=by omega
  have hn1:¬ (281474976710656 < (m:Int) * (i.bytes:Int)):=by omega
  have e0:kO z.cells 0=#[]:=by simp[kO]
  by_cases h0:m * τ.size=0
  ·simp[At,zC h.und,zC hu,hsz,hroom,asInt,asIntOf,hw,vK hi,h63,h48,hn0,hn1,h0,e0,BB,hold',h.zero,newRow,grownCap,mF,hzs]
  ·simp[At,zC h.und,zC hu,hsz,hroom,asInt,asIntOf,hw,vK hi,h63,h48,hn0,hn1,h0,BB,hold',h.zero,newRow,grownCap,mF,hzs]
end
end Go.Rf

end
section
namespace Go.Rf
set_option linter.unusedSectionVars false
variable [T:Laid]
section
variable {P:Program} {H:Nat→Option (List Value)} {N:Nat} {g g' σ:zW} {V V':Nat→Option Value} {w w':World} {S S':Nat→Prop} {β β':Key→Option Nat} {a:Act} {o:Oper}
variable {E:Env} {gv:zW} {us:List Up}
structure Elems (S:Nat→Prop) (w:World) (τ:Ty) (ys:List τ.D) (cy:List Value):Prop where
 len:cy.length=ys.length * τ.size
 one:∀ v ∈ cy,v.oneCell'=true
 get:∀ j v,nth ys j=some v→Rd S w τ v (win cy (j * τ.size) τ.size)
theorem Elems.of {τ:Ty} {ys:List τ.D} {cy:List Value} (h1:cy.length=ys.length * τ.size) (h2:∀ j v,nth ys j=some v→Rd S w τ v (win cy (j * τ.size) τ.size)):Elems S w τ ys cy:=by
 refine⟨h1,fun v hv=>?_,h2⟩
 obtain⟨i,hi,hiv⟩:=A7G hv h1
 have ht:0 < τ.size:=by
  rcases BR τ.size with e|e
  ·rw[e] at hi;omega
  ·exact e
 have hq:i / τ.size < ys.length:=by rw[Nat.div_lt_iff_lt_mul ht];exact hi
 refine A0L (h2 (i / τ.size) _ (sZ (z:=τ.dflt) hq)) v ?_
 have hg:(win cy (i / τ.size * τ.size) τ.size)[i % τ.size]?=some v:=by
  rw[rL,AE (Nat.mod_lt _ ht)]
  have:=Nat.div_add_mod i τ.size
  rw[Nat.mul_comm] at this
  rw[this];exact hiv
 exact Aw hg
theorem Elems.nil {τ:Ty}:Elems S w τ ([]:List τ.D) []:=⟨by simp,by simp,fun j v h=>by simp[nth] at h⟩
theorem aM {n:Nat} {L:Loc} (h:w'.heap=w.heap):zD w' n L=zD w n L:=by cases L<;>simp[zD,h]
theorem A22 {τ:Ty} {ys:List τ.D} {c:List Value} (h:Rd S w (.sl τ) ys c):∃ ad cap cy,c=[.slice ad ys.length cap]∧Elems S w τ ys cy ∧
  ∀ w',w'.heap=w.heap→(Ai τ.size ys.length (.slice ad ys.length cap)).run P w'=.ok cy.toArray w':=by
 simp only[Rd] at h
 obtain⟨ad,cap,rfl,hl,h⟩:=h
 rcases h with h|⟨b,oo,cs,rfl,hS,hB,hz,h⟩
 ·subst h
  refine⟨ad,cap,[],rfl,.nil,fun w' _=>?_⟩
  cases ad with
  | none=>simp[Ai]
  | some b=>simp[Ai,fM]
 ·refine⟨_,cap,win cs.toList oo (Ag ys * τ.size),rfl,Elems.of (eY (by simpa using hz)) (fun j v hv=>?_),fun w' hw'=>?_⟩
  ·have hj:j < Ag ys:=by unfold nth at hv;exact (Ae.1 hv).1
   have hlt:(j+1) * τ.size≤Ag ys * τ.size:=Ac _ hj
   rw[Ah,Av] at hlt
   rw[pB (by omega)]
   exact h j v hv
  ·have hc:=zJ (o:=oo) (n:=Ag ys * τ.size) hB hz
   rw[← aM hw'] at hc
   simp only[Ai]
   exact oJ hc
theorem A5M {n:Int} (h:zA n=true):0≤n:=by simpa[zA] using h
theorem Ax5 {s:List UInt8} {t':TypeId} {z:Array Value} (ht:P.underlying t'=some .string):
  Elems S w (.int .u8) (Bv (fun b:UInt8=>(b.toNat:Int)) s) (Bv (fun b:UInt8=>Value.int .u8 (b.toNat:Int)) s) ∧
  A1J P w t' (Ty.int .u8).size z (.string ⟨⟨s⟩⟩) (Bv (fun b:UInt8=>(b.toNat:Int)) s).length (Bv (fun b:UInt8=>Value.int .u8 (b.toNat:Int)) s):=by
 refine⟨Elems.of ?_ (fun j v hj=>?_),.inl ⟨_,ht,by simp,fun w'=>?_,fun w' _=>?_⟩⟩
 ·show _=(Bv (fun b:UInt8=>(b.toNat:Int)) s).length * 1
  rw[Ce,AT,AT]
 ·obtain⟨b,hb1,hb2⟩:=A6P hj
  subst hb2
  simp only[Rd,Ty.size,Ce]
  apply AC
  intro i
  rw[rL]
  cases i with
  | zero=>rw[AE (by decide),Ay,AD,hb1];rfl
  | succ i=>rw[As (by omega)];simp
 ·rw[AT];rfl
 ·rw[AT]
  have h2:(⟨⟨s⟩⟩:ByteArray).extract 0 s.length=⟨⟨s⟩⟩:=by rw[Aj9];simp
  simp only[Ai]
  rw[h2]
  simp
theorem Az5 {τ:Ty} {t':TypeId} {y:Operand} {ys:List τ.D} {z:Value} (h:Rel H N g V w S β) (hs:Sub gv g) (hz:qR τ z.cells.toList=true) (hzs:z.cells.size=τ.size)
  (ha:Av3 gv τ (E.ty t') y=some (ys,us)):
  ∃ S1 β1 cy vy,Rel H N (g.ups us) V w S1 β1∧Step w S β w S1 β1∧Sub (gv.ups us) (g.ups us)∧(∀ u ∈ us,(g u.slot).sv≠.dead)∧Elems S1 w τ ys cy∧evl V y=some vy∧A1J E.P w t' τ.size z.cells vy ys.length cy:=by
 unfold Av3 at ha
 split at ha
 ·rename_i ht
  split at ha
  ·rename_i n hn
   split at ha
   ·rename_i hw
    simp only[Aj] at ha
    split at ha
    ·rename_i hcond
     simp only[Ad] at hcond
     simp only[Aa,Af] at ha
     obtain⟨rfl,rfl⟩:=ha
     have hn0:=A5M hcond.1
     have hv:=gS h (hs.sv hn (by simp)) kA
     have hnn:((A0 n:Nat):Int)=n:=Int.toNat_of_nonneg hn0
     refine⟨S,β,(kO z.cells (A0 n * τ.size)).toList,_,h,.refl,hs,by simp,Elems.of (by simp[iK]) (fun j v hj=>?_),hv,.inr ⟨A2w ht,?_,?_,?_⟩⟩
     ·have hj':(Bu (A0 n) τ.dflt)[j]?=some v:=hj
      rw[Be] at hj'
      split at hj'
      ·rename_i hjn
       simp only[Aa] at hj';subst hj'
       have:=A0d (S:=S) (β:=fun _=>none) (H:=H) (w:=w) (k:=[]) (mv:=false) hz hzs hjn
       exact wY (f:=Fl.nw false τ) hw (fun _ h=>h) (fun _ _ hb=>by cases hb) this
      ·cases hj'
     ·rw[AJ,hnn]
     ·rw[AJ];exact AL2 hcond.2
     ·rw[AJ]
    ·cases ha
   ·cases ha
  ·cases ha
 ·rename_i τ' ht
  obtain⟨e',he',h7⟩:=AN0 ht
  split at ha
  ·rename_i hy
   split at ha
   ·simp only[Aa,Af] at ha
    obtain⟨rfl,rfl⟩:=ha
    have hv:evl V y=some (.slice none 0 0):=by
     rcases fZ (hs.sv hy (by simp)) with ⟨s,rfl,h'⟩| rfl
     ·have:=h.slots s
      rw[h'] at this;exact this.elim
     ·rfl
    exact⟨S,β,[],_,h,.refl,hs,by simp,.nil,hv,.inl ⟨_,he',by simp,fun w'=>by simp[Bl],fun w' _=>by simp[Ai]⟩⟩
   ·cases ha
  ·split at ha
   ·rename_i τ'' ys0 f0 hd
    simp only[Aq,Ab,Af] at ha
    obtain⟨ys1,hc,us1,hp,rfl,rfl⟩:=ha
    obtain⟨het,hex⟩:=wX hc
    cases het
    have hex:ys=ys0:=hex
    subst hex
    obtain⟨hp',hsub,halive⟩:=gT hs hp
    obtain⟨S1,β1,c,k1,k2,k3,k4⟩:=dK h hp' (uD hs hd)
    obtain⟨ad,cap,cy,rfl,q1,q2⟩:=A22 (P:=E.P) k4
    exact⟨S1,β1,cy,_,k1,k2,hsub,halive,q1,k3,.inl ⟨_,he',by simp,fun w'=>by simp[zV,Ty.agg,Bl],fun w' hw'=>q2 w' hw'⟩⟩
   ·cases ha
 ·rename_i ht
  split at ha
  ·rename_i s hy
   obtain⟨ys1,hc,hpair⟩:=Ab.1 ha
   simp only[Af] at hpair
   obtain⟨rfl,rfl⟩:=hpair
   obtain⟨het,hex⟩:=wX hc
   cases het
   have hex:ys1=Bv (fun b:UInt8=>(b.toNat:Int)) s:=hex
   subst hex
   have hv:=A3I h (hs.sv hy (by simp)) kA
   exact⟨S,β,_,_,h,.refl,hs,by simp,(Ax5 (P:=E.P) (z:=z.cells) (AK2 ht)).1,hv,(Ax5 (S:=S) (w:=w) (AK2 ht)).2⟩
  ·cases ha
 ·cases ha
end
end Go.Rf

end
section
namespace Go.Rf
set_option linter.unusedSectionVars false
variable [T:Laid]
section
variable {P:Program} {H:Nat→Option (List Value)} {N:Nat} {g g' σ:zW} {V V':Nat→Option Value} {w w':World} {S S':Nat→Prop} {β β':Key→Option Nat} {a:Act} {o:Oper}
variable {E:Env} {gv:zW} {us:List Up}
theorem Rel.touch (h:Rel H N g V w S β) {r:Nat} {e:Dat} (he:(g r).sv=.dat e):Rel H N (g.up (.pub r (.dat e))) V w S β:=by
 obtain⟨t,x,f⟩:=e
 obtain⟨c,hv,hV⟩:=h.dat he
 exact h.pub he h.sane (fun b hb=>⟨hb,rfl⟩) (fun j s b _ _ hb=>⟨hb,rfl⟩) (fun p d L cr c h1 h2 _ _ _ h4 h5=>⟨⟨d.f,h1,h2⟩,h4,h5⟩) ⟨c,hv,hV⟩
theorem eD {α:Type} {xs ys:List α} {i:Nat} {y:α} (h:nth (xs++ys) i=some y):(i < xs.length∧nth xs i=some y)∨(xs.length≤i∧nth ys (i - xs.length)=some y):=by
 unfold nth at *
 by_cases hi:i < xs.length
 ·rw[A7 hi] at h;exact .inl ⟨hi,h⟩
 ·rw[A4 (by omega)] at h;exact .inr ⟨by omega,h⟩
theorem AH2 {t t' ty e:TypeId} {τ:Ty} {z:Value} {vy:Value} {xs ys:List τ.D} {cy:List Value} {ad:Option Addr} {cap:Nat} {key:Key} (hok:SlOK E t e τ z)
  (hb:zN S β H w key (.sl τ) (.own .sh) xs [.slice ad xs.length cap]) (hy:Elems S w τ ys cy) (ha:A1J E.P w t' τ.size z.cells vy ys.length cy) (hlen:xs.length+ys.length≤1099511627776) (hsep:∀ b,β key=some b→¬ S b) (hlt:∀ b,S b→b < w.heap.size):
  (∃ w',(At #[t,t'] ty #[.slice ad xs.length cap,vy]).run E.P w=.ok (.slice ad (xs.length+ys.length) cap) w' ∧
   ((w'=w∧cap=0∧xs=[]∧ys=[])∨∃ b₀ o,ad=some ⟨b₀,o,none⟩∧β key=some b₀∧Chg w w' b₀ (o+xs.length * τ.size) cy∧w'.heap.size=w.heap.size∧zN S β H w' key (.sl τ) (.own .sh) (xs++ys:List τ.D) [.slice ad (xs.length+ys.length) cap])) ∨
  (∃ w' nc ob,(At #[t,t'] ty #[.slice ad xs.length cap,vy]).run E.P w=.ok (.slice (some ⟨w.heap.size,0,none⟩) (xs.length+ys.length) nc) w'∧Pushed w w' ob ∧
   ∀ key' β',β' key'=some w.heap.size→zN S β' H w' key' (.sl τ) (.own .sh) (xs++ys:List τ.D) [.slice (some ⟨w.heap.size,0,none⟩) (xs.length+ys.length) nc]):=by
 simp only[zN,Fl.base] at hb
 obtain⟨_,ad',cap',e1,hlc,hb⟩:=hb
 simp only[Ak,AM,Bg] at e1
 obtain⟨rfl,_,rfl⟩:=e1
 by_cases hroom:xs.length+ys.length≤cap
 ·left
  rcases hb with hb|⟨b,oo,cs,rfl,hk,hob,hz,hel⟩
  ·have hx:xs=[]:=Am.1 (by omega)
   have hyy:ys=[]:=Am.1 (by omega)
   subst hx;subst hyy
   have hcy:cy=[]:=Am.1 (by have:=hy.len;simpa using this)
   subst hcy
   exact⟨w,jJ hok ha hroom (fun a _=>by simp[storeCells]) (fun _=>rfl),.inl ⟨rfl,hb,rfl,rfl⟩⟩
  ·obtain⟨el,fz,hbl,hf⟩:=hob
   have hle:oo+xs.length * τ.size+cy.length≤cs.size:=by
    rw[hy.len]
    have:xs.length * τ.size+ys.length * τ.size≤cap * τ.size:=by rw[← Ah];exact Ac _ hroom
    omega
   obtain⟨w',cs',k1,k2,k3,k4,k5,k6⟩:=qW (P:=E.P) (vs:=cy) (i:=0) (o:=oo+xs.length * τ.size) hbl (fun j hj=>⟨by omega,hf.1 _ (by omega)⟩) hy.one
   rw[Ay] at k3
   have hchg:Chg w w' b (oo+xs.length * τ.size) cy:=⟨k4,⟨cs,el,fz,cs',hbl,k2,k3,hle⟩,k6⟩
   have hsz:cs'.size=cs.size:=by
    have:=AX Ag k3
    rw[jW (by simpa using hle)] at this
    simpa using this
   have hS:∀ b',S b'→S b'∧w'.heap[b']?=w.heap[b']?:=fun b' hb'=>⟨hb',k4 b' (fun e=>hsep b hk (e▸hb'))⟩
   refine⟨w',jJ hok ha hroom (fun a ha'=>?_) (fun h=>by cases h),.inr ⟨b,oo,rfl,hk,hchg,k5,?_⟩⟩
   ·simp only[Aa] at ha';subst ha'
    rw[mL];exact k1
   ·simp only[zN,Fl.base]
    refine⟨by simp[pN,Fl.pins],_,cap,by rw[Ax],by rw[Ax];exact hroom,.inr ⟨b,oo,cs',rfl,hk,⟨el,fz,k2,by rw[hsz];exact hf⟩,by rw[hsz];exact hz,fun i y hi=>?_⟩⟩
    rw[yO,k3]
    rcases eD hi with ⟨hlt',hi⟩| ⟨hge,hi⟩
    ·have hlt2:(i+1) * τ.size≤xs.length * τ.size:=Ac _ hlt'
     rw[Ah,Av] at hlt2
     rw[vG (by simpa using hle) (.inl (by omega))]
     have:=hel i y hi
     rw[yO] at this
     exact zM hS this
    ·have hj:i - xs.length < ys.length:=by unfold nth at hi;exact (Ae.1 hi).1
     have hlt2:(i - xs.length+1) * τ.size≤ys.length * τ.size:=Ac _ hj
     rw[Ah,Av] at hlt2
     have e2:oo+i * τ.size=oo+xs.length * τ.size+(i - xs.length) * τ.size:=by
      have:i * τ.size=xs.length * τ.size+(i - xs.length) * τ.size:=by rw[← Ah];congr 1;omega
      omega
     have e3:win (iM cs.toList (oo+xs.length * τ.size) cy) (oo+i * τ.size) τ.size=win cy ((i - xs.length) * τ.size) τ.size:=by
      rw[e2,← pB (n:=cy.length) (by rw[hy.len];omega),mK (by simpa using hle)]
     rw[e3]
     exact zM hS (hy.get _ y hi)
 ·right
  have hold:∃ co:List Value,co.length=xs.length * τ.size∧(∀ w',w'.heap=w.heap→(Ai τ.size xs.length (.slice ad xs.length cap)).run E.P w'=.ok co.toArray w')∧∀ i y,nth xs i=some y→Rd S w τ y (win co (i * τ.size) τ.size):=by
   rcases hb with hb|⟨b,oo,cs,rfl,hk,hob,hz,hel⟩
   ·have hx:xs=[]:=Am.1 (by omega)
    subst hx
    refine⟨[],by simp,fun w' _=>?_,fun i y h=>by simp[nth] at h⟩
    cases ad with
    | none=>simp[Ai]
    | some b=>simp[Ai,fM]
   ·have hle:oo+xs.length * τ.size≤cs.size:=by
     have:xs.length * τ.size≤cap * τ.size:=Ac _ hlc
     omega
    refine⟨win cs.toList oo (xs.length * τ.size),eY (by simpa using hle),fun w' hw'=>?_,fun i y hi=>?_⟩
    ·have hc:=zJ (o:=oo) (n:=xs.length * τ.size) hob.blk hle
     rw[← aM hw'] at hc
     simp only[Ai]
     exact oJ hc
    ·have hj:i < xs.length:=by unfold nth at hi;exact (Ae.1 hi).1
     have hlt':(i+1) * τ.size≤xs.length * τ.size:=Ac _ hj
     rw[Ah,Av] at hlt'
     rw[pB (by omega)]
     have:=hel i y hi
     rw[yO] at this;exact this
  obtain⟨co,hcl,hold,hel⟩:=hold
  obtain⟨nc,w',hnc,hrun,hheap⟩:=AF5 (ty:=ty) hok ha hroom hlen hold
  refine⟨w',nc,_,hrun,hheap,fun key' β' hk'=>?_⟩
  have hS:∀ b',S b'→S b'∧w'.heap[b']?=w.heap[b']?:=fun b' hb'=>⟨hb',uW hheap (hlt b' hb')⟩
  simp only[zN,Fl.base]
  refine⟨by simp[pN,Fl.pins],_,nc,by rw[Ax],by rw[Ax];exact hnc,.inr ⟨w.heap.size,0,_,rfl,hk',AC1.new hheap (.inl rfl),?_,fun i y hi=>?_⟩⟩
  ·simp only[Bz,AW,iK,hcl,hy.len]
   have:nc * τ.size=xs.length * τ.size+ys.length * τ.size+(nc - (xs.length+ys.length)) * τ.size:=by
    rw[← Ah,← Ah];congr 1;omega
   omega
  ·rw[yO,A2]
   simp only[BN]
   have wl:∀ (A B:List Value) (p n:Nat),p+n≤A.length→win (A++B) p n=win A p n:=fun A B p n h=>by
    unfold win
    rw[Bn (by omega),Bo (by simp;omega)]
   have wr:∀ (A B:List Value) (p n:Nat),win (A++B) (A.length+p) n=win B p n:=fun A B p n=>by
    unfold win;rw[Cb,B9 (by omega)];simp
   rcases eD hi with ⟨hlt',hi⟩| ⟨hge,hi⟩
   ·have hlt2:(i+1) * τ.size≤xs.length * τ.size:=Ac _ hlt'
    rw[Ah,Av] at hlt2
    rw[wl _ _ _ _ (by omega)]
    exact zM hS (hel i y hi)
   ·have hj:i - xs.length < ys.length:=by unfold nth at hi;exact (Ae.1 hi).1
    have hlt2:(i - xs.length+1) * τ.size≤ys.length * τ.size:=Ac _ hj
    rw[Ah,Av] at hlt2
    have e2:i * τ.size=co.length+(i - xs.length) * τ.size:=by
     rw[hcl,← Ah];congr 1;omega
    rw[e2,wr,wl _ _ _ _ (by rw[hy.len];omega)]
    exact zM hS (hy.get _ y hi)
end
end Go.Rf

end
section
namespace Go.Rf
set_option linter.unusedSectionVars false
variable [T:Laid]
section
variable {P:Program} {H:Nat→Option (List Value)} {N:Nat} {g g' σ:zW} {V V':Nat→Option Value} {w w':World} {S S':Nat→Prop} {β β':Key→Option Nat} {a:Act} {o:Oper}
variable {E:Env} {gv:zW} {us:List Up}
theorem A0G {key:Key} {τ:Ty} {ys:List τ.D} {e:Fl} {c:List Value} (hw:e.whole=true) (h:zN S β H w key (.sl τ) (.own e) ys c):
  ∃ ad cap cy,c=[.slice ad ys.length cap]∧ys.length≤cap∧cy.length=ys.length * τ.size∧(∀ v ∈ cy,v.oneCell'=true) ∧
   (∀ w',w'.heap=w.heap→(Ai τ.size ys.length (.slice ad ys.length cap)).run P w'=.ok cy.toArray w') ∧
   (∀ i y,nth ys i=some y→zN S β H w (key++[i]) τ e y (win cy (i * τ.size) τ.size)) ∧
   ((cap=0∧ys=[])∨∃ b o cs,ad=some ⟨b,o,none⟩∧β key=some b∧AC1 (BO8 τ) w b cs∧o+cap * τ.size≤cs.size∧cy=win cs.toList o (ys.length * τ.size)):=by
 simp only[zN,Fl.base] at h
 obtain⟨_,ad,cap,rfl,hl,h⟩:=h
 rcases h with h|⟨b,oo,cs,rfl,hk,hB,hz,h⟩
 ·have hy:ys=[]:=Am.1 (by omega)
  subst hy
  refine⟨ad,cap,[],rfl,hl,by simp,by simp,fun w' _=>?_,fun i y hi=>by simp[nth] at hi,.inl ⟨h,rfl⟩⟩
  cases ad with
  | none=>simp[Ai]
  | some b=>simp[Ai,fM]
 ·have hle:oo+ys.length * τ.size≤cs.size:=by
   have:ys.length * τ.size≤cap * τ.size:=Ac _ hl
   omega
  have hel:∀ i y,nth ys i=some y→zN S β H w (key++[i]) τ e y (win (win cs.toList oo (ys.length * τ.size)) (i * τ.size) τ.size):=fun i y hi=>by
   have hj:i < Ag ys:=by unfold nth at hi;exact (Ae.1 hi).1
   have hlt:(i+1) * τ.size≤Ag ys * τ.size:=Ac _ hj
   rw[Ah,Av] at hlt
   rw[pB (by omega)]
   exact h i y hi
  have hlen:(win cs.toList oo (ys.length * τ.size)).length=ys.length * τ.size:=eY (by simpa using hle)
  refine⟨_,cap,win cs.toList oo (ys.length * τ.size),rfl,hl,hlen,(Elems.of (S:=Au9 S β) (w:=w) hlen fun j v hv=>hH hw (hel j v hv)).one,fun w' hw'=>?_,hel,.inr ⟨b,oo,cs,rfl,hk,hB,hz,rfl⟩⟩
  have hc:=zJ (o:=oo) (n:=ys.length * τ.size) hB.blk hle
  rw[← aM hw'] at hc
  simp only[Ai]
  exact oJ hc
def fK (β:Key→Option Nat) (n m d b:Nat):Key→Option Nat
 | []=>β []
 | [i]=>if i=d then some b else if i=n∨i=n+1 then none else β [i]
 | i :: j :: s=>if i=d then (if j < m then β (n :: j :: s) else β ((n+1) :: (j - m) :: s)) else if i=n∨i=n+1 then none else β (i :: j :: s)
theorem iN {n m d b b':Nat} {k:Key} (h:fK β n m d b k=some b'):
  (k=[d]∧b'=b)∨(∃ j s,j < m∧k=d :: j :: s∧β (n :: j :: s)=some b')∨(∃ j s,k=d :: (m+j) :: s∧β ((n+1) :: j :: s)=some b') ∨
   ((∀ s,k≠d :: s)∧(∀ s,k≠n :: s)∧(∀ s,k≠(n+1) :: s)∧β k=some b'):=by
 match k,h with
 | [],hh=>exact .inr (.inr (.inr ⟨by simp,by simp,by simp,hh⟩))
 | [i],hh=>
  simp only[fK] at hh
  split at hh
  ·rename_i e;subst e;exact .inl ⟨rfl,(Ap hh).symm⟩
  ·rename_i h1
   split at hh
   ·cases hh
   ·rename_i h2
    refine .inr (.inr (.inr ⟨?_,?_,?_,hh⟩))<;>(intro s e;simp only[Ak] at e;omega)
 | i :: j :: s,hh=>
  simp only[fK] at hh
  split at hh
  ·rename_i e;subst e
   split at hh
   ·rename_i hj;exact .inr (.inl ⟨j,s,hj,rfl,hh⟩)
   ·rename_i hj;exact .inr (.inr (.inl ⟨j - m,s,by rw[show m+(j - m)=j by omega],hh⟩))
  ·rename_i h1
   split at hh
   ·cases hh
   ·rename_i h2
    refine .inr (.inr (.inr ⟨?_,?_,?_,hh⟩))<;>(intro s e;simp only[Ak] at e;omega)
theorem Sane.join {n m d b:Nat} (h:Sane w S β) (hsz:w.heap.size≤w'.heap.size) (hb:∀ k,β k=some b→k=[n]) (hS:¬ S b) (hlt:b < w'.heap.size) (hSS:∀ b,S b→w'.heap[b]?=w.heap[b]?):Sane w' S (fK β n m d b) where
 inj k k' b' h1 h2:=by
  rcases iN h1 with ⟨rfl,rfl⟩| ⟨j,s,hj,rfl,q1⟩| ⟨j,s,rfl,q1⟩| ⟨a1,a2,a3,q1⟩ <;>
   rcases iN h2 with ⟨rfl,e2⟩| ⟨j',s',hj',rfl,q2⟩| ⟨j',s',rfl,q2⟩| ⟨c1,c2,c3,q2⟩
  ·rfl
  ·have:=hb _ q2;simp at this
  ·have:=hb _ q2;simp at this
  ·exact absurd (hb _ q2) (c2 _)
  ·subst e2;have:=hb _ q1;simp at this
  ·have:=h.inj _ _ _ q1 q2;simp only[Ak] at this ⊢;exact⟨trivial,this.2⟩
  ·have:=h.inj _ _ _ q1 q2;simp only[Ak] at this;omega
  ·exact absurd (h.inj _ _ _ q2 q1) (c2 _)
  ·subst e2;have:=hb _ q1;simp at this
  ·have:=h.inj _ _ _ q1 q2;simp only[Ak] at this;omega
  ·have:=h.inj _ _ _ q1 q2;simp only[Ak] at this ⊢;exact⟨trivial,by omega,this.2.2⟩
  ·exact absurd (h.inj _ _ _ q2 q1) (c3 _)
  ·subst e2;exact absurd (hb _ q1) (a2 _)
  ·exact absurd (h.inj _ _ _ q1 q2) (a2 _)
  ·exact absurd (h.inj _ _ _ q1 q2) (a3 _)
  ·exact h.inj _ _ _ q1 q2
 sep k b' h1:=by
  rcases iN h1 with ⟨rfl,rfl⟩| ⟨j,s,hj,rfl,q1⟩| ⟨j,s,rfl,q1⟩| ⟨a1,a2,a3,q1⟩
  ·exact hS
  ·exact h.sep _ _ q1
  ·exact h.sep _ _ q1
  ·exact h.sep _ _ q1
 live k b' h1:=by
  rcases iN h1 with ⟨rfl,rfl⟩| ⟨j,s,hj,rfl,q1⟩| ⟨j,s,rfl,q1⟩| ⟨a1,a2,a3,q1⟩
  ·exact hlt
  ·exact Bd (h.live _ _ q1) hsz
  ·exact Bd (h.live _ _ q1) hsz
  ·exact Bd (h.live _ _ q1) hsz
 liveS b' hb':=Bd (h.liveS b' hb') hsz
 tab:=h.tabs fun b hb=>⟨hb,hSS b hb⟩
theorem Step.join {n m d b:Nat} (hb:(∃ k,β k=some b)∨w.heap.size≤b) (hsz:w.heap.size≤w'.heap.size) (hold:∀ b',b' < w.heap.size→(∀ k,β k≠some b')→w'.heap[b']?=w.heap[b']?) (hout:SameOut w w'):Step w S β w' S (fK β n m d b) where
 size:=hsz
 old:=hold
 new k b' h1:=by
  rcases iN h1 with ⟨rfl,rfl⟩| ⟨j,s,hj,rfl,q1⟩| ⟨j,s,rfl,q1⟩| ⟨a1,a2,a3,q1⟩
  ·exact hb
  ·exact .inl ⟨_,q1⟩
  ·exact .inl ⟨_,q1⟩
  ·exact .inl ⟨_,q1⟩
 keepS _ h:=h
 newS _ h:=.inl h
 out:=hout
theorem A2n (A B:List Value) (p n:Nat) (h:p+n≤A.length):win (A++B) p n=win A p n:=by
 unfold win
 rw[Bn (by omega),Bo (by simp;omega)]
theorem A6h (A B:List Value) (p n:Nat):win (A++B) (A.length+p) n=win B p n:=by
 unfold win;rw[Cb,B9 (by omega)];simp
theorem A4E {k:Key} {τ:Ty} {ad:Option Addr} {e:Fl}:zN S β H w k (.sl τ) (.own e) ([]:List τ.D) [.slice ad 0 0]:=by
 simp only[zN,Fl.base]
 exact⟨by simp[pN,Fl.pins],ad,0,rfl,by simp,.inl rfl⟩
theorem A5z {t t' ty e0:TypeId} {τ:Ty} {z:Value} {vy:Value} {xs ys:List τ.D} {cx cy:List Value} {e:Fl} {n d:Nat} (hw:e.whole=true) (hok:SlOK E t e0 τ z) (hs:Sane w S β)
  (hx:zN S β H w [n] (.sl τ) (.own e) xs cx) (hyl:cy.length=ys.length * τ.size) (hy1:∀ v ∈ cy,v.oneCell'=true) (hye:∀ i y,nth ys i=some y→zN S β H w ([n+1]++[i]) τ e y (win cy (i * τ.size) τ.size))
  (ha:A1J E.P w t' τ.size z.cells vy ys.length cy) (hlen:xs.length+ys.length≤1099511627776):
  ∃ v w' β',(At #[t,t'] ty #[zV (.sl τ) cx,vy]).run E.P w=.ok v w'∧Sane w' S β'∧Step w S β w' S β'∧(∀ b,S b→w'.heap[b]?=w.heap[b]?) ∧
   (∀ j s b,j≠d→j≠n→j≠n+1→β (j :: s)=some b→β' (j :: s)=some b∧w'.heap[b]?=w.heap[b]?)∧∃ cr,v=zV (.sl τ) cr∧zN S β' H w' [d] (.sl τ) (.own e) (xs++ys:List τ.D) cr:=by
 obtain⟨ad,cap,co,rfl,hlc,hcl,hc1,hcf,hce,hblk⟩:=A0G (P:=E.P) hw hx
 have hv:zV (.sl τ) [.slice ad xs.length cap]=.slice ad xs.length cap:=rfl
 rw[hv]
 by_cases hroom:xs.length+ys.length≤cap
 ·rcases hblk with ⟨hb,hxx⟩| ⟨b,oo,cs,rfl,hk,hob,hz,hco⟩
  ·have hyy:ys=[]:=Am.1 (by omega)
   subst hxx;subst hyy
   have hcy:cy=[]:=Am.1 (by simpa using hyl)
   subst hcy
   have hrun:=jJ (base:=ad) (ty:=ty) (w':=w) hok ha hroom (fun a _=>by simp[storeCells]) (fun _=>rfl)
   have hsr:=hs.rekey [n] [d]
   refine⟨_,w,_,hrun,(hs.rekey [n] [d]).rekey [n+1] [n],((Step.rekey [n] [d]).trans (Step.rekey [n+1] [n])),fun _ _=>rfl,fun j s b h1 h2 h3 hb=>⟨?_,rfl⟩,[.slice ad 0 cap],rfl,?_⟩
   ·rw[xX (zZ h2) (zZ h3),xX (zZ h1) (zZ h2)];exact hb
   ·rw[hb];exact A4E
  ·obtain⟨el,fz,hbl,hf⟩:=hob
   have hle:oo+xs.length * τ.size+cy.length≤cs.size:=by
    rw[hyl]
    have:xs.length * τ.size+ys.length * τ.size≤cap * τ.size:=by rw[← Ah];exact Ac _ hroom
    omega
   obtain⟨w',cs',k1,k2,k3,k4,k5,k6⟩:=qW (P:=E.P) (vs:=cy) (i:=0) (o:=oo+xs.length * τ.size) hbl (fun j hj=>⟨by omega,hf.1 _ (by omega)⟩) hy1
   rw[Ay] at k3
   have hsz:cs'.size=cs.size:=by
    have:=AX Ag k3
    rw[jW (by simpa using hle)] at this
    simpa using this
   have hSne:∀ b',S b'→b'≠b:=fun b' hb' e=>hs.sep [n] b hk (e▸hb')
   have hown:∀ k b',β k=some b'→k≠[n]→w'.heap[b']?=w.heap[b']?:=fun k b' hb' hne=>k4 b' (fun e=>hne (hs.inj _ _ _ hb' (e▸hk)))
   have hrun:=jJ (base:=some ⟨b,oo,none⟩) (ty:=ty) (w':=w') hok ha hroom (fun a ha'=>by
    simp only[Aa] at ha';subst ha'
    rw[mL];exact k1) (fun h=>by cases h)
   refine⟨_,w',fK β n xs.length d b,hrun,hs.join (BW k5.symm) (fun k hb=>hs.inj _ _ _ hb hk) (hs.sep _ _ hk) (by rw[k5];exact hs.live _ _ hk) (fun b' hb'=>k4 b' (hSne b' hb')),Step.join (.inl ⟨_,hk⟩) (BW k5.symm) (fun b' _ hb'=>k4 b' (fun e=>hb' [n] (e▸hk))) k6,
    fun b' hb'=>k4 b' (hSne b' hb'),fun j s b' h1 h2 h3 hb=>⟨?_,hown _ _ hb (by simp[h2])⟩,[.slice (some ⟨b,oo,none⟩) (xs.length+ys.length) cap],rfl,?_⟩
   ·cases s with
    | nil=>simp only[fK];rw[As h1,As (by omega)];exact hb
    | cons j' s=>simp only[fK];rw[As h1,As (by omega)];exact hb
   ·simp only[zN,Fl.base]
    refine⟨by simp[pN,Fl.pins],_,cap,by rw[Ax],by rw[Ax];exact hroom,.inr ⟨b,oo,cs',rfl,by simp[fK],⟨el,fz,k2,by rw[hsz];exact hf⟩,by rw[hsz];exact hz,fun i y hi=>?_⟩⟩
    rw[k3]
    rcases eD hi with ⟨hlt',hi⟩| ⟨hge,hi⟩
    ·have hlt2:(i+1) * τ.size≤xs.length * τ.size:=Ac _ hlt'
     rw[Ah,Av] at hlt2
     rw[vG (by simpa using hle) (.inl (by omega)),← pB (o:=oo) (n:=xs.length * τ.size) (by omega),← hco]
     refine zI (fun b' hb'=>⟨hb',k4 b' (hSne b' hb')⟩) (fun s b' hb'=>⟨?_,hown _ _ hb' (by simp)⟩) (hce i y hi)
     show fK β n xs.length d b (d :: i :: s)=some b'
     simp only[fK,Az,AE hlt'];exact hb'
    ·have hj:i - xs.length < ys.length:=by unfold nth at hi;exact (Ae.1 hi).1
     have hlt2:(i - xs.length+1) * τ.size≤ys.length * τ.size:=Ac _ hj
     rw[Ah,Av] at hlt2
     have e2:oo+i * τ.size=oo+xs.length * τ.size+(i - xs.length) * τ.size:=by
      have:i * τ.size=xs.length * τ.size+(i - xs.length) * τ.size:=by rw[← Ah];congr 1;omega
      omega
     have e3:win (iM cs.toList (oo+xs.length * τ.size) cy) (oo+i * τ.size) τ.size=win cy ((i - xs.length) * τ.size) τ.size:=by
      rw[e2,← pB (n:=cy.length) (by rw[hyl];omega),mK (by simpa using hle)]
     rw[e3]
     refine zI (fun b' hb'=>⟨hb',k4 b' (hSne b' hb')⟩) (fun s b' hb'=>⟨?_,hown _ _ hb' (by simp)⟩) (hye _ y hi)
     show fK β n xs.length d b (d :: i :: s)=some b'
     simp only[fK,Az,As (Cj.2 hge)];exact hb'
 ·obtain⟨nc,w',hnc,hrun,hheap⟩:=AF5 (ty:=ty) hok ha hroom hlen hcf
  have hl:∀ k b',β k=some b'→w'.heap[b']?=w.heap[b']?:=fun k b' hb'=>uW hheap (hs.live _ _ hb')
  have hS:∀ b',S b'→S b'∧w'.heap[b']?=w.heap[b']?:=fun b' hb'=>⟨hb',uW hheap (hs.liveS _ hb')⟩
  have hsz:=AW0 hheap
  refine⟨_,w',fK β n xs.length d w.heap.size,hrun,hs.join (by omega) (fun k hb=>absurd (hs.live _ _ hb) (Nat.lt_irrefl _)) (fun hb=>absurd (hs.liveS _ hb) (Nat.lt_irrefl _)) (by omega) (fun b' hb'=>(hS b' hb').2),Step.join (.inr (Al _)) (by omega) (fun b' hb' _=>uW hheap hb') hheap.out,
   fun b' hb'=>(hS b' hb').2,fun j s b' h1 h2 h3 hb=>⟨?_,hl _ _ hb⟩,[.slice (some ⟨w.heap.size,0,none⟩) (xs.length+ys.length) nc],rfl,?_⟩
  ·cases s with
   | nil=>simp only[fK];rw[As h1,As (by omega)];exact hb
   | cons j' s=>simp only[fK];rw[As h1,As (by omega)];exact hb
  ·simp only[zN,Fl.base]
   refine⟨by simp[pN,Fl.pins],_,nc,by rw[Ax],by rw[Ax];exact hnc,.inr ⟨w.heap.size,0,_,rfl,by simp[fK],AC1.new hheap (.inl rfl),?_,fun i y hi=>?_⟩⟩
   ·simp only[Bz,AW,iK,hcl,hyl]
    have:nc * τ.size=xs.length * τ.size+ys.length * τ.size+(nc - (xs.length+ys.length)) * τ.size:=by
     rw[← Ah,← Ah];congr 1;omega
    omega
   ·rw[A2]
    simp only[BN]
    rcases eD hi with ⟨hlt',hi⟩| ⟨hge,hi⟩
    ·have hlt2:(i+1) * τ.size≤xs.length * τ.size:=Ac _ hlt'
     rw[Ah,Av] at hlt2
     rw[A2n _ _ _ _ (by omega)]
     refine zI hS (fun s b' hb'=>⟨?_,hl _ _ hb'⟩) (hce i y hi)
     show fK β n xs.length d w.heap.size (d :: i :: s)=some b'
     simp only[fK,Az,AE hlt'];exact hb'
    ·have hj:i - xs.length < ys.length:=by unfold nth at hi;exact (Ae.1 hi).1
     have hlt2:(i - xs.length+1) * τ.size≤ys.length * τ.size:=Ac _ hj
     rw[Ah,Av] at hlt2
     have e2:i * τ.size=co.length+(i - xs.length) * τ.size:=by
      rw[hcl,← Ah];congr 1;omega
     rw[e2,A6h,A2n _ _ _ _ (by rw[hyl];omega)]
     refine zI hS (fun s b' hb'=>⟨?_,hl _ _ hb'⟩) (hye _ y hi)
     show fK β n xs.length d w.heap.size (d :: i :: s)=some b'
     simp only[fK,Az,As (Cj.2 hge)];exact hb'
end
end Go.Rf

end
section
namespace Go.Rf
set_option linter.unusedSectionVars false
variable [T:Laid]
section
variable {P:Program} {H:Nat→Option (List Value)} {N:Nat} {g g' σ:zW} {V V':Nat→Option Value} {w w':World} {S S':Nat→Prop} {β β':Key→Option Nat} {a:Act} {o:Oper}
variable {E:Env} {gv:zW} {us:List Up}
theorem A7s {d r c s u:Nat} {p:List PS} {v:SV} {val:Value} {e:Dat} (h0:r < N) (h1:c≤(g r).c) (h2:s≤(g r).s) (h3:u≤(g r).u) (h:r≠d→A3y H (g.up (.put d v)) w S β d r p e (some val)):
  rR H N (g.up (.put d v)) (upd V d val) w S β d (.pend r p c s u e):=by
 refine⟨h0,?_⟩
 by_cases hr:r=d
 ·subst hr
  refine⟨by rw[vD];simp;omega,by rw[vD];simp;omega,by rw[vD];simp;omega,fun ok=>?_⟩
  have:=(AQ7.1 ok).2
  rw[vD] at this;simp at this;omega
 ·refine⟨by rw[rF hr];exact h1,by rw[rF hr];exact h2,by rw[rF hr];exact h3,fun _=>?_⟩
  have:(upd V d val) d=some val:=by simp[upd]
  rw[this];exact h hr
theorem qB {c:Call} {x y:Operand} {t t':TypeId} {val:Value} (ho:o.op=.call c) (hcal:c.callee=.builtin .append) (hargs:c.args=#[x,y]) (hts:c.argTypes=#[t,t'])
  (hr:(At #[t,t'] o.type #[a.eval x,a.eval y]).run P w=.ok val w'):(execOp a.eval o).run P w=.ok (.value val) w':=
 jC ho hcal (s:=At #[t,t'] o.type #[a.eval x,a.eval y]) (by rw[hargs,hts,show Cp a.eval #[x,y]=#[a.eval x,a.eval y] by simp];rfl) hr
theorem Ah9 {d:Nat} {t:Ty} {x:t.D} {f:Fl} {val:Value} {ob:Obj} {c:List Value} (h:Rel H N g V w S β) (hD:yD N g) (hd:d < N) (hw:Pushed w w' ob) (hv:zN S (AQ6 β [d] w.heap.size) H w' [d] t f x c) (hval:val=zV t c):
  Rel H N (g.up (.put d (.dat ⟨t,x,f⟩))) (upd V d val) w' S (AQ6 β [d] w.heap.size):=
 h.finish (fun _ _=>rfl) hD (fun _ _=>rfl) hd (h.sane.new hw [d]) (fun b hb=>⟨hb,uW hw (h.sane.liveS b hb)⟩)
  (fun j s b hj _ hb=>⟨by unfold AQ6;rw[As (by simp[hj])];exact hb,uW hw (h.sane.live _ b hb)⟩) ⟨c,hv,by simp[upd,hval]⟩
theorem AK9 {k:Key} {τ:Ty} {ad:Option Addr} {e:Fl} {xs:List τ.D} (h:xs=[]):zN S β H w k (.sl τ) (.own e) xs [.slice ad xs.length 0]:=by
 subst h
 simp only[zN,Fl.base]
 exact⟨by simp[pN,Fl.pins],ad,0,rfl,by simp,.inl rfl⟩
theorem Am1 {t t' e0:TypeId} {x y:Operand} {c:Call} {τ:Ty} {z:Value} {xs ys:List τ.D} {e:Fl} {us1:List Up} (hc:Ctx E.P H S β a w o g) (hs:Sub gv g) (ho:o.op=.call c) (hcal:c.callee=.builtin .append) (hargs:c.args=#[x,y]) (hts:c.argTypes=#[t,t'])
  (hok:SlOK E t e0 τ z) (hq:Ao6 gv τ (E.ty t') x y=some ((xs,ys),e,us1)) (hlen:xs.length+ys.length≤1099511627776)
  (hk:rW o us1 (.dat ⟨.sl τ,(xs++ys:List τ.D),.own e⟩) some=some us):yF E.P H S β a w o (g.ups us):=by
 unfold Ao6 at hq
 split at hq
 ·rename_i τ' ht
  obtain⟨e',he',_⟩:=AN0 ht
  split at hq
  ·rename_i i1 τ1 xs1 e1 i2 τ2 ys1 e2 us2 htp
   split at hq
   ·rename_i hcond
    simp only[Ad,Ar] at hcond
    obtain⟨hee,_⟩:=hcond
    subst hee
    obtain⟨xs2,hx2,hq⟩:=Aq.1 hq
    obtain⟨ys2,hy2,hq⟩:=Ab.1 hq
    simp only[Af] at hq
    obtain⟨⟨rfl,rfl⟩,rfl,rfl⟩:=hq
    obtain⟨hex,hx2⟩:=wX hx2
    cases hex
    have hx2:xs=xs1:=hx2
    subst hx2
    obtain⟨hey,hy2⟩:=wX hy2
    cases hey
    have hy2:ys=ys1:=hy2
    subst hy2
    obtain⟨dd,hdst,rfl⟩:=yG hk
    have hd:=xF hc.opIn hdst
    obtain⟨S1,β1,g1,V1,cs,k1,k2,k3,k4,k5,k6⟩:=cC (ps:=#[(0,x),(1,y)]) hc hs htp (by
     intro q hq
     rw[ho]
     simp only[AO,List.not_mem_nil,or_false] at hq
     rcases hq with rfl|rfl<;>simp[Cf,Call.operands,hargs])
    obtain⟨k31,k32⟩:=k3
    match cs,k31 with
    | [cx,cy],_=>
     obtain⟨m1,m2,m3,m4⟩:=k32 0 _ cx rfl rfl
     obtain⟨n1,n2,n3,n4⟩:=k32 1 _ cy rfl rfl
     rw[Ay] at m1 m2
     obtain⟨cx',hvx,hVx⟩:=k1.dat m1
     obtain⟨cy',hvy,hVy⟩:=k1.dat n1
     have ex:cx'=cx:=uA (Ap (hVx.symm.trans m2)) (zO hvx) m3
     have ey:cy'=cy:=uA (Ap (hVy.symm.trans n2)) (zO hvy) n3
     subst ex;subst ey
     simp only[gL,List.zip_cons_cons,List.zip_nil_right,BO,List.map_nil,AY,Ak,Af,Bg] at k6
     obtain⟨⟨_,exv⟩,_,eyv⟩:=k6
     have hwh:e1.whole=true:=m4
     obtain⟨ady,capy,cyy,q1,q2,q3,q4,q5,q6,_⟩:=A0G (P:=E.P) hwh hvy
     subst q1
     have hadd:A1J E.P w t' τ.size z.cells (zV (.sl τ) [.slice ady ys.length capy]) ys.length cyy:=.inl ⟨_,he',by simp,fun w'=>by simp[zV,Ty.agg,Bl],fun w' hw'=>q5 w' hw'⟩
     obtain⟨v,w',β',r1,r2,r3,r4,r5,cr,r6,r7⟩:=A5z (ty:=o.type) (d:=dd) hwh hok k1.sane hvx q3 q4 q6 hadd hlen
     intro K Q hK
     refine uH (qB ho hcal hargs hts (by rw[exv,eyv];exact r1)) (hK _ _ S1 β' wG yN ?_ (k2.trans r3))
     rw[hdst,vE hd,yQ]
     refine k4.finish (fun _ _=>rfl) k5 (fun _ _=>rfl) hd r2 (fun b hb=>⟨hb,r4 b hb⟩) (fun j s b hj ha hb=>?_) ⟨cr,r7,by simp[upd,r6]⟩
     have:=k5.lt ha
     exact r5 j s b hj (by omega) (by omega) hb
    | [],h|[_],h=>simp at h
    | _ :: _ :: _ :: _,h=>simp at h
   ·cases hq
  ·cases hq
 ·cases hq
theorem As1 {t t':TypeId} {x y:Operand} {c:Call} (hc:Ctx E.P H S β a w o g) (hs:Sub gv g) (ho:o.op=.call c) (hcal:c.callee=.builtin .append) (hargs:c.args=#[x,y]) (hts:c.argTypes=#[t,t'])
  (hk:AN9 gv o (E.sl t) (E.ty t') x y some=some us):yF E.P H S β a w o (g.ups us):=by
 unfold AN9 at hk
 split at hk
 ·rename_i τ ht
  obtain⟨τ2,e,z,heq,hok⟩:=A2s ht
  simp only[Ty.sl.injEq] at heq
  subst heq
  split at hk
  ·rename_i xs ys e0 us1 hq
   simp only[Aj] at hk
   split at hk
   ·rename_i hlen
    exact Am1 hc hs ho hcal hargs hts hok hq (AL2 hlen) hk
   ·cases hk
  simp only[Aj] at hk
  split at hk
  case isFalse=>cases hk
  rename_i hcondA
  split at hk
  case isFalse=>cases hk
  rename_i hcondD
  split at hk
  ·rename_i ys us1 hadds
   have hadds:=A6K hcondA hcondD hadds
   split at hk
   ·rename_i xs vs q hfirst
    try simp only[Aj] at hk
    split at hk
    ·rename_i hlen
     have hlen:=AL2 hlen
     obtain⟨S1,β1,cy,vy,hrel,hst,hsub,halive,hel,hvy,hadd⟩:=Az5 hc.rel hs hok.cells hok.size hadds
     have hD0:yD a.tmps.size (g.ups us1):=hc.dead.ups fun u hu=>hc.dead.lt (halive u hu)
     have eyv:=zH hvy
     unfold A20 at hfirst
     split at hfirst
     ·
      rename_i hx
      simp only[Aa,Af] at hfirst
      obtain⟨rfl,rfl,rfl⟩:=hfirst
      simp only[BC,Bc] at hk
      obtain⟨dd,hdst,rfl⟩:=yG hk
      have hd:=xF hc.opIn hdst
      have hxv:a.eval x=.slice none 0 0:=by
       rcases fZ (hsub.sv hx (by simp)) with ⟨s,rfl,h'⟩| rfl
       ·have:=hrel.slots s
        rw[h'] at this;exact this.elim
       ·rfl
      have hcore:=AH2 (ty:=o.type) (ad:=none) (xs:=([]:List τ.D)) (key:=[dd]) (β:=β1) (H:=H) hok (AK9 rfl) hel hadd (by simpa using hlen) (fun b hb=>hrel.sane.sep _ _ hb) hrel.sane.liveS
      intro K Q hK
      rcases hcore with ⟨w',hrun,hres⟩| ⟨w',nc,ob,hrun,hheap,hres⟩
      ·rcases hres with ⟨rfl,_,_,hyy⟩| ⟨b₀,oo,hnone,_⟩
       ·subst hyy
        refine uH (qB ho hcal hargs hts (by rw[hxv,eyv];exact hrun)) (hK _ _ S1 β1 wG yN ?_ hst)
        rw[hdst,vE hd,yQ]
        exact hrel.finish (fun _ _=>rfl) hD0 (fun _ _=>rfl) hd hrel.sane (fun b hb=>⟨hb,rfl⟩) (fun _ _ _ _ _ hb=>⟨hb,rfl⟩) ⟨[.slice none 0 0],AK9 (ad:=none) (xs:=([]:List τ.D)) rfl,by simp[upd,zV,Ty.agg]⟩
       ·cases hnone
      ·refine uH (qB ho hcal hargs hts (by rw[hxv,eyv];exact hrun)) (hK _ _ S1 _ wG yN ?_ (hst.trans (Step.newB hheap [dd])))
       rw[hdst,vE hd,yQ]
       exact Ah9 hrel hD0 hd hheap (hres [dd] _ (by simp[AQ6])) rfl
     ·
      rename_i r p c0 s0 u0 d0 hx
      split at hfirst
      ·rename_i τ' xs0 vs0 htk
       obtain⟨xs1,hcast,hpair⟩:=Ab.1 hfirst
       simp only[Af] at hpair
       obtain⟨rfl,rfl,rfl⟩:=hpair
       obtain⟨het,hex⟩:=wX hcast
       cases het
       have hex:xs1=xs0:=hex
       subst hex
       simp only at hk
       obtain⟨dd,hdst,rfl⟩:=yG hk
       have hd:=xF hc.opIn hdst
       rw[← hx] at htk
       obtain⟨htk',_⟩:=fN hsub htk
       have hal2:=iG htk'
       have hD1:yD a.tmps.size ((g.ups us1).ups vs0):=hD0.ups fun u hu=>hD0.lt (hal2 u hu)
       obtain⟨S2,β2,cc,k1,k2,k3,k4⟩:=jY hrel htk' (n:=a.tmps.size) (hD0 _ (Al _)) (Al _)
       obtain⟨cx,hvr,hVn⟩:=k1.dat jA
       have hcc:cx=cc:=by
        simp only[upd,Az] at hVn
        exact (uA (Ap hVn) k4 (zO hvr)).symm
       subst hcc
       have hfin:Rel H a.tmps.size ((g.ups us1).ups vs0) (qD a) w S2 β2:=k1.fin (fun i hi=>(kS (by omega)).symm) hD1 (fun i hi=>by simp only[upd];rw[As (by omega)])
       have hvr0:=hvr
       simp only[zN,Fl.base] at hvr0
       obtain⟨_,ad,cap,rfl,_,_⟩:=hvr0
       have exv:a.eval x=.slice ad (Ag xs1) cap:=zH k3
       have hcore:=AH2 (ty:=o.type) (xs:=xs1) (key:=[a.tmps.size]) (β:=β2) (H:=H) hok hvr (hel.len |> fun _=>(⟨hel.len,hel.one,fun j v h=>zM (fun b hb=>⟨k2.keepS b hb,rfl⟩) (hel.get j v h)⟩:Elems S2 w τ ys cy)) hadd hlen (fun b hb=>k1.sane.sep _ _ hb) k1.sane.liveS
       intro K Q hK
       rcases hcore with ⟨w',hrun,hres⟩| ⟨w',nc,ob,hrun,hheap,hres⟩
       ·rcases hres with ⟨rfl,hcap,hxx,hyy⟩| ⟨b₀,oo,had,hb0,hchg,hsz,hnew⟩
        ·refine uH (qB ho hcal hargs hts (by rw[exv,eyv];exact hrun)) (hK _ _ S2 β2 wG yN ?_ (hst.trans k2))
         rw[hdst,vE hd,yQ,yQ]
         refine hfin.finish (fun _ _=>rfl) hD1 (fun _ _=>rfl) hd hfin.sane (fun b hb=>⟨hb,rfl⟩) (fun _ _ _ _ _ hb=>⟨hb,rfl⟩) ⟨[.slice ad (Ag xs1+ys.length) cap],?_,by simp[upd,zV,Ty.agg]⟩
         have hn:xs1++ys=[]:=by rw[hxx,hyy];rfl
         have:=AK9 (S:=S2) (β:=β2) (H:=H) (w:=w') (k:=[dd]) (ad:=ad) (e:=.sh) hn
         rw[Ax] at this
         rw[hcap];exact this
        ·refine uH (qB ho hcal hargs hts (by rw[exv,eyv];exact hrun)) (hK _ _ S2 (rekey β2 [a.tmps.size] [dd]) wG yN ?_ (((hst.trans k2).trans (Step.store hb0 hchg hsz)).trans ((Step.rekey [a.tmps.size] [dd]).at hsz |> fun h=>⟨h.size,h.old,h.new,h.keepS,h.newS,h.out⟩)))
         rw[hdst,vE hd,yQ,yQ]
         have hne:∀ b,S2 b→b≠b₀:=fun b hb e=>k1.sane.sep _ _ hb0 (e▸hb)
         have hsr:=k1.sane.rekey [a.tmps.size] [dd]
         refine hfin.finish (fun _ _=>rfl) hD1 (fun _ _=>rfl) hd ⟨hsr.inj,hsr.sep,fun k b hk=>by rw[hsz];exact hsr.live k b hk,fun b hk=>by rw[hsz];exact hsr.liveS b hk,hsr.tabs fun b hb=>⟨hb,hchg.other b (hne b hb)⟩⟩ (fun b hb=>⟨hb,hchg.other b (hne b hb)⟩)
          (fun j s b hj ha hb=>⟨?_,hchg.other b (fun e=>?_)⟩) ⟨_,qH hnew,by simp[upd,zV,Ty.agg]⟩
         ·have:=hD1.lt ha
          rw[xX (zZ hj) (zZ (by omega))];exact hb
         ·subst e
          have:=k1.sane.inj _ _ _ hb hb0
          have hjN:=hD1.lt ha
          simp only[Ak] at this
          omega
       ·refine uH (qB ho hcal hargs hts (by rw[exv,eyv];exact hrun)) (hK _ _ S2 _ wG yN ?_ ((hst.trans k2).trans (Step.newB hheap [dd])))
        rw[hdst,vE hd,yQ,yQ]
        exact Ah9 hfin hD1 hd hheap (hres [dd] _ (by simp[AQ6])) rfl
      ·cases hfirst
     ·
      split at hfirst
      ·rename_i q0 hq
       split at hfirst
       ·rename_i τ' xs0 hat
        obtain⟨xs1,hcast,hpair⟩:=Ab.1 hfirst
        simp only[Af] at hpair
        obtain⟨rfl,rfl,rfl⟩:=hpair
        obtain⟨het,hex⟩:=wX hcast
        cases het
        have hex:xs1=xs0:=hex
        subst hex
        simp only at hk
        obtain⟨dd,hdst,rfl⟩:=yG hk
        have hd:=xF hc.opIn hdst
        obtain⟨hq',hat',hr⟩:=aP hsub hq hat
        obtain⟨e0,cr,L,cc,he0,hg0,hb0,hV0,hl0,hvr,hw0,hcc0,hvp,hxv⟩:=eZ hrel hq' hat' (by simp[Fl.base])
        have hvp0:=hvp
        simp only[zN,Fl.base] at hvp0
        obtain⟨_,ad,cap,rfl,hlc,hvp1⟩:=hvp0
        have exv:a.eval x=.slice ad (Ag xs1) cap:=zH hxv
        have hgv:(gv.ups us1) q0.1=(g.ups us1) q0.1:=hr.symm
        have hq0N:=hD0.root he0
        have hcore:=AH2 (ty:=o.type) (xs:=xs1) (key:=q0.1 :: xA q0.2) (β:=β1) (H:=H) hok hvp hel hadd hlen (fun b hb=>hrel.sane.sep _ _ hb) hrel.sane.liveS
        have hups:(g.ups (us1++[Up.pub q0.1 ((gv.ups us1) q0.1).sv]++[Up.put dd (.pend q0.1 q0.2 ((gv.ups us1) q0.1).c ((gv.ups us1) q0.1).s (((gv.ups us1) q0.1).u+1) ⟨.sl τ,(xs1++ys:List τ.D),.own .sh⟩)])) =
          ((g.ups us1).up (.pub q0.1 (.dat e0))).up (.put dd (.pend q0.1 q0.2 ((g.ups us1) q0.1).c ((g.ups us1) q0.1).s (((g.ups us1) q0.1).u+1) ⟨.sl τ,(xs1++ys:List τ.D),.own .sh⟩)):=by
         rw[yQ,yQ,hgv,he0];rfl
        rw[hups]
        have g1q:((g.ups us1).up (.pub q0.1 (.dat e0))) q0.1=⟨.dat e0,((g.ups us1) q0.1).c,((g.ups us1) q0.1).s,((g.ups us1) q0.1).u+1⟩:=pF (u:=.pub q0.1 (.dat e0))
        have hD1:yD a.tmps.size ((g.ups us1).up (.pub q0.1 (.dat e0))):=hD0.up hq0N
        have fin:∀ {w':World} {S2:Nat→Prop} {β2:Key→Option Nat} {val:Value} {cx:List Value},Rel H a.tmps.size ((g.ups us1).up (.pub q0.1 (.dat e0))) (qD a) w' S2 β2→∀ {w2:World} {β3:Key→Option Nat},Sane w2 S2 β3→(∀ b,S2 b→w2.heap[b]?=w'.heap[b]?) →
          (∀ j s b,j≠dd→β2 (j :: s)=some b→β3 (j :: s)=some b∧w2.heap[b]?=w'.heap[b]?)→val=zV (.sl τ) cx →
          (q0.1≠dd→∃ β4,(β4=β3∨∃ b,β3 [dd]=some b∧β4=repl β3 (q0.1 :: xA q0.2) dd b)∧zN S2 β4 H w2 (q0.1 :: xA q0.2) (.sl τ) (.own .sh) (xs1++ys:List τ.D) cx) →
          Rel H a.tmps.size (((g.ups us1).up (.pub q0.1 (.dat e0))).up (.put dd (.pend q0.1 q0.2 ((g.ups us1) q0.1).c ((g.ups us1) q0.1).s (((g.ups us1) q0.1).u+1) ⟨.sl τ,(xs1++ys:List τ.D),.own .sh⟩))) (upd (qD a) dd val) w2 S2 β3:=by
         intro w' S2 β2 val cx hR w2 β3 hs2 hS2 hβ2 hval hex
         refine hR.finish (fun _ _=>rfl) hD1 (fun _ _=>rfl) hd hs2 (fun b hb=>⟨hb,hS2 b hb⟩) (fun j s b hj _ hb=>hβ2 j s b hj hb) ?_
         refine A7s hq0N (by rw[g1q];exact Al _) (by rw[g1q];exact Al _) (by rw[g1q];exact Al _) fun hne dr hdr=>?_
         rw[rF hne,g1q] at hdr
         simp only[SV.dat.injEq] at hdr
         subst hdr
         obtain⟨β4,h1,h2⟩:=hex hne
         exact⟨⟨_,hg0,by simp[Fl.base],hb0⟩,β4,cx,h1,h2,by rw[hval]⟩
        intro K Q hK
        rcases hcore with ⟨w',hrun,hres⟩| ⟨w',nc,ob,hrun,hheap,hres⟩
        ·rcases hres with ⟨rfl,hcap,hxx,hyy⟩| ⟨b₀,oo,had,hkb,hchg,hsz,hnew⟩
         ·refine uH (qB ho hcal hargs hts (by rw[exv,eyv];exact hrun)) (hK _ _ S1 β1 wG yN ?_ hst)
          rw[hdst,vE hd]
          refine fin (cx:=[.slice ad (Ag xs1+ys.length) cap]) (hrel.touch he0) hrel.sane (fun _ _=>rfl) (fun j s b _ hb=>⟨hb,rfl⟩) rfl (fun _=>⟨β1,.inl rfl,?_⟩)
          have hn:xs1++ys=[]:=by rw[hxx,hyy];rfl
          have:=AK9 (S:=S1) (β:=β1) (H:=H) (w:=w') (k:=q0.1 :: xA q0.2) (ad:=ad) (e:=.sh) hn
          rw[Ax] at this
          rw[hcap];exact this
         ·subst had
          have hbeh:Behind S1 β1 w w' ([q0.1]++xA q0.2) b₀ (oo+Ag xs1 * τ.size) cy:=⟨hchg,fun key hkey=>hrel.sane.inj _ _ _ hkey hkb,fun hS=>hrel.sane.sep _ _ hkb hS⟩
          have hcells:zD w e0.t.size (.reg cr)=some cr:=by simp[zD,hl0]
          have hcells':zD w' e0.t.size (.reg cr)=some cr:=by simp[zD,hl0]
          have hne:∀ b,S1 b→b≠b₀:=fun b hb e=>hrel.sane.sep _ _ hkb (e▸hb)
          have hsane':Sane w' S1 β1:=⟨hrel.sane.inj,hrel.sane.sep,fun k b hk=>by rw[hsz];exact hrel.sane.live k b hk,fun b hk=>by rw[hsz];exact hrel.sane.liveS b hk,hrel.sane.tabs fun b hb=>⟨hb,hchg.other b (hne b hb)⟩⟩
          have hpub:Rel H a.tmps.size ((g.ups us1).up (.pub q0.1 (.dat ⟨e0.t,e0.x,e0.f⟩))) (qD a) w' S1 β1:=by
           refine hrel.pub he0 hsane' (fun b hb=>⟨hb,hchg.other b (hne b hb)⟩) (fun j s b hj _ hb=>⟨hb,hchg.other b (fun e=>?_)⟩) (fun p d L2 cr2 c2 h1 h2 h3 h4 h5 h6 h7=>?_) ⟨cr,?_,hV0⟩
           ·subst e
            have:=hrel.sane.inj _ _ _ hb hkb
            simp only[Ak] at this
            exact hj this.1
           ·have hcr:cr2=cr:=uA (Ap (h4.symm.trans hV0)) (zO h5) hl0
            subst hcr
            obtain⟨Lq,cq,k1,k2,k3,k4⟩:=aY (w':=w') (k:=[q0.1]) h1 h2 h3 hg0 rfl hb0 hcells hcells' hvr hw0 (by simpa[Ty.size] using hcc0) (Al _) hbeh
            rw[h6] at k1
            simp only[Aa,Af,AS] at k1
            subst k1
            rw[h7] at k3
            cases k3
            exact⟨⟨d.f,h1,h2⟩,k2,k4⟩
           ·exact aW hg0 rfl hb0 hcells hvr hw0 (by simpa[Ty.size] using hcc0) (Al _) hbeh
          refine uH (qB ho hcal hargs hts (by rw[exv,eyv];exact hrun)) (hK _ _ S1 β1 wG yN ?_ (hst.trans (Step.store hkb hchg hsz)))
          rw[hdst,vE hd]
          exact fin hpub hsane' (fun _ _=>rfl) (fun j s b _ hb=>⟨hb,rfl⟩) rfl (fun _=>⟨β1,.inl rfl,hnew⟩)
        ·refine uH (qB ho hcal hargs hts (by rw[exv,eyv];exact hrun)) (hK _ _ S1 _ wG yN ?_ (hst.trans (Step.newB hheap [dd])))
         rw[hdst,vE hd]
         refine fin (hrel.touch he0) (hrel.sane.new hheap [dd]) (fun b hb=>uW hheap (hrel.sane.liveS b hb)) (fun j s b hj hb=>⟨by unfold AQ6;rw[As (by simp[hj])];exact hb,uW hheap (hrel.sane.live _ b hb)⟩) rfl
          (fun _=>⟨repl (AQ6 β1 [dd] w.heap.size) (q0.1 :: xA q0.2) dd w.heap.size,.inr ⟨w.heap.size,by simp[AQ6],rfl⟩,hres _ _ (by simp[repl])⟩)
       ·cases hfirst
      ·cases hfirst
    ·cases hk
   ·cases hk
  ·cases hk
 ·cases hk
end
end Go.Rf

end
section
namespace Go.Rf
set_option linter.unusedSectionVars false
variable [T:Laid]
section
variable {P:Program} {H:Nat→Option (List Value)} {N:Nat} {g g' σ:zW} {V V':Nat→Option Value} {w w':World} {S S':Nat→Prop} {β β':Key→Option Nat} {a:Act} {o:Oper}
variable {E:Env} {gv:zW} {us:List Up}
theorem AC9 (hs:Sub gv g):∀ {xs:List Operand} {rs:List (Nat × Nat)},eQ gv xs=some rs→xs=rs.map (fun x=>.tmp x.1)∧∀ x ∈ rs,(g x.1).s=x.2∧(g x.1).sv≠.dead
 | [],rs,h=>by
  simp only[eQ,Aa] at h;subst h;exact⟨rfl,by simp⟩
 | x :: xs,rs,h=>by
  cases x with
  | tmp s=>
   simp only[eQ] at h
   split at h
   ·rename_i t y f hy
    simp only[Ab] at h
    obtain⟨rs',h',rfl⟩:=h
    obtain⟨h1,h2⟩:=AC9 hs h'
    have hg:=hs.get hy (by simp)
    refine⟨by simp[h1],fun x hx=>?_⟩
    rcases AO.1 hx with rfl|hx
    ·exact⟨by simp only[hg],by simp only[hg,hy];simp⟩
    ·exact h2 x hx
   ·cases h
  | _=>simp[eQ] at h
theorem AZ9 {h:FuncId} {caps:Array Operand} {rs:List (Nat × Nat)} (hc:Ctx P H S β a w o g) (hs:Sub gv g) (hm:o.op=.makeFunc (.func h) #[] caps) (hr:eQ gv caps.toList=some rs)
  (hk:rW o [] (.clo h rs) some=some us):yF P H S β a w o (g.ups us):=by
 obtain⟨d,ho,rfl⟩:=yG hk
 obtain⟨h1,h2⟩:=AC9 hs hr
 refine AO2 (val:=.func (.func h) #[] (caps.map a.eval)) hc.rel hc.dead ho (xF hc.opIn ho) (by simp[execOp,hm,Instr.makeFunc]) ?_
 refine A08 (fun x hx=>⟨hc.dead.lt (h2 x hx).2,by rw[(h2 x hx).1];exact Al _⟩) fun _ vs hvs=>?_
 congr 2
 apply AG.1
 rw[AY,h1,B8]
 have:(rs.map fun x=>qD a x.1)=rs.map fun x=>some (a.eval (.tmp x.1)):=BM fun x hx=>oK (hc.dead.lt (h2 x hx).2)
 rw[this] at hvs
 have h3:(rs.map fun x=>a.eval (.tmp x.1)).map some=vs.map some:=by rw[← hvs,B8];rfl
 have h4:=(List.map_inj_right (fun _ _=>Ap)).1 h3
 simpa[Function.comp_def] using h4
end
end Go.Rf

end
section
namespace Go.Rf
set_option linter.unusedSectionVars false
variable [T:Laid]
section
variable {P:Program} {H:Nat→Option (List Value)} {N:Nat} {g g' σ:zW} {V V':Nat→Option Value} {w w':World} {S S':Nat→Prop} {β β':Key→Option Nat} {a:Act} {o:Oper}
variable {E:Env} {gv:zW} {us:List Up}
def Ap3 (S:Nat→Prop) (β:Key→Option Nat) (rs:List Nat):Nat→Prop:=fun b=>S b∨∃ r ∈ rs,∃ s,β (r :: s)=some b
theorem AH0 (h:Rel H N g V w S β) {L:List Nat}:∀ {rs:List (Nat × Nat)} {cs:FCaps},(∀ x ∈ rs,x.1 ∈ L)→eJ g rs=some cs →
  (∀ x ∈ rs,(g x.1).s=x.2)∧∃ vs:List Value,rs.map (fun x=>V x.1)=vs.map some∧qY (Ap3 S β L) w cs vs
 | [],cs,_,hc=>by
  simp only[eJ,Aa] at hc;subst hc
  exact⟨by simp,[],rfl,by simp[qY]⟩
 | (r,s) :: rs,cs,hL,hc=>by
  simp only[eJ] at hc
  have hrd:∀ {t:Ty} {x:(Ty.ptr t).D} {f:Fl} {c:List Value},f.whole=true→zN S β H w [r] (.ptr t) f x c→Rd (Ap3 S β L) w (.ptr t) x c:=fun hw hv=>
   wY hw (fun _=>.inl) (fun k b hb=>.inr ⟨r,hL (r,s) List.mem_cons_self,k,by simpa using hb⟩) hv
  split at hc
  ·rename_i k n f he
   split at hc
   ·rename_i hok
    simp only[Ad,A3] at hok
    simp only[Ab] at hc
    obtain⟨cs',hc,rfl⟩:=hc
    obtain⟨h1,vs,h2,h3⟩:=AH0 h (fun x hx=>hL x (by simp[hx])) hc
    obtain⟨c,hv,hV⟩:=h.dat he
    have:=hrd hok.2 hv
    simp only[Rd] at this
    obtain⟨b,cs2,rfl,hb,hB,hz,h4⟩:=this
    refine⟨?_,.pointer (some ⟨b,0,none⟩) :: vs,?_,?_⟩
    ·intro x hx
     rcases AO.1 hx with rfl|hx
     ·exact hok.1
     ·exact h1 x hx
    ·simp only[BO,h2,Ak,Bg];exact hV
    ·simp only[qY]
     refine⟨b,vs,rfl,hb,?_,h3⟩
     have:cs2=#[.int k n]:=by apply AG.1;rw[h4]
     rwa [← this]
   ·cases hc
  ·rename_i v f he
   split at hc
   ·rename_i hok
    simp only[Ad,A3] at hok
    simp only[Ab] at hc
    obtain⟨cs',hc,rfl⟩:=hc
    obtain⟨h1,vs,h2,h3⟩:=AH0 h (fun x hx=>hL x (by simp[hx])) hc
    obtain⟨c,hv,hV⟩:=h.dat he
    have:=hrd hok.2 hv
    simp only[Rd] at this
    obtain⟨b,cs2,rfl,hb,hB,hz,u,h4,h5⟩:=this
    refine⟨?_,.pointer (some ⟨b,0,none⟩) :: vs,?_,?_⟩
    ·intro x hx
     rcases AO.1 hx with rfl|hx
     ·exact hok.1
     ·exact h1 x hx
    ·simp only[BO,h2,Ak,Bg];exact hV
    ·simp only[qY]
     refine⟨b,u,vs,rfl,hb,?_,h5,h3⟩
     have:cs2=#[u]:=by apply AG.1;rw[h4]
     rwa [← this]
   ·cases hc
  ·cases hc
theorem A19 {x:Operand} {d:Dat} (h:Rel H N g V w S β) (hd:yK g (sv g x)=some d):
  ∃ c,evl V x=some (zV d.t c)∧Rd (Ap3 S β (kV g x (sv g x))) w d.t d.x c:=by
 have freeR:∀ {t:Ty} {x:t.D} {c:List Value} {L:List Nat},Rd S w t x c→Rd (Ap3 S β L) w t x c:=fun hr=>zM (fun b hb=>⟨.inl hb,rfl⟩) hr
 cases hv:sv g x with
 | dead=>rw[hv] at hd;simp[yK] at hd
 | und=>rw[hv] at hd;simp[yK] at hd
 | unk=>rw[hv] at hd;simp[yK] at hd
 | tup d=>rw[hv] at hd;simp[yK] at hd
 | adr _ _ _ _=>rw[hv] at hd;simp[yK] at hd
 | nils=>rw[hv] at hd;simp[yK] at hd
 | dat e=>
  rw[hv] at hd
  simp only[yK] at hd
  split at hd
  ·rename_i hw
   simp only[Aa] at hd;subst hd
   rcases pP h hv with ⟨s,rfl,hs⟩| ⟨hf,c,hc,hrd⟩
   ·obtain⟨c,hvr,hV⟩:=h.dat hs
    refine⟨c,hV,?_⟩
    simp only[kV]
    split
    ·rename_i hf
     rw[wW hf,yO] at hvr;exact freeR hvr
    ·exact wY hw (fun _=>.inl) (fun k b hb=>.inr ⟨s,by simp,k,by simpa using hb⟩) hvr
   ·exact⟨c,hc,freeR hrd⟩
  ·cases hd
 | clo f rs=>
  rw[hv] at hd
  obtain⟨s,rfl,hs⟩:=vZ hv (by simp) (by simp) (by simp)
  simp only[yK,Ab] at hd
  obtain⟨cs,hc,rfl⟩:=hd
  obtain⟨h1,vs,h2,h3⟩:=AH0 h (L:=rs.map (·.1)) (fun x hx=>AN.2 ⟨x,hx,rfl⟩) hc
  have hss:=h.slots s
  rw[hs] at hss
  have:=hss.2 h1 vs h2
  refine⟨[.func (.func f) #[] vs.toArray],this,?_⟩
  simp only[Rd,Aw7,kV]
  exact⟨_,rfl,vs,rfl,h3⟩
 | als r p c s=>
  rw[hv] at hd
  obtain⟨i,rfl,hi⟩:=vZ hv (by simp) (by simp) (by simp)
  simp only[yK] at hd
  split at hd
  ·rename_i hok
   split at hd
   ·rename_i e he
    split at hd
    ·rename_i hw
     simp only[Aa] at hd;subst hd
     obtain⟨e',he',hg⟩:=lX he
     obtain⟨_,hb,hnd,cr,L,c',k1,k2,k3,k4,k5,k6,k7⟩:=h.als hi hok he' hg
     refine⟨c',k7,?_⟩
     simp only[kV,he]
     split
     ·rename_i hf
      rw[wW hf,yO] at k6;exact freeR k6
     ·exact wY hw (fun _=>.inl) (fun k b hb=>.inr ⟨r,by simp,xA p++k,by simpa using hb⟩) k6
    ·cases hd
   ·cases hd
  ·cases hd
 | pend r p c s u e=>
  rw[hv] at hd
  obtain⟨i,rfl,hi⟩:=vZ hv (by simp) (by simp) (by simp)
  simp only[yK] at hd
  split at hd
  ·rename_i hok
   simp only[Ad] at hok
   split at hd
   ·rename_i e' he
    simp only[Aa] at hd;subst hd
    have hss:=h.slots i
    rw[hi] at hss
    obtain⟨h0,_,_,_,hss⟩:=hss
    obtain⟨_,β2,cc,hβ2,hvr,hV⟩:=hss hok.1 e' he
    refine⟨cc,hV,wY hok.2 (fun _=>.inl) (fun k b hb=>?_) hvr⟩
    simp only[kV]
    rcases hβ2 with rfl|⟨b2,hb2,rfl⟩
    ·exact .inr ⟨r,by simp,xA p++k,by simpa using hb⟩
    ·unfold repl at hb
     split at hb
     ·cases hb;exact .inr ⟨i,by simp,[],hb2⟩
     ·split at hb
      ·cases hb
      ·exact .inr ⟨r,by simp,xA p++k,by simpa using hb⟩
   ·cases hd
  ·cases hd
end
end Go.Rf

end
section
namespace Go.Rf
set_option linter.unusedSectionVars false
variable [T:Laid]
section
variable {S S':Nat→Prop} {β β':Key→Option Nat} {H:Nat→Option (List Value)} {w w':World}
theorem aK:∀ {t:Ty} {x:t.D} {c:List Value},At6 t=true→Rd S w t x c→Rd S' w' t x c
 | .int _,_,_,_,h|.bool,_,_,_,h|.str,_,_,_,h|.unit,_,_,_,h=>by simpa only[Rd] using h
 | .arr _ t,_,_,hs,h=>by
  simp only[Rd] at h ⊢
  exact⟨h.1,h.2.1,fun i y hy=>aK hs (h.2.2 i y hy)⟩
 | .pair a b,_,_,hs,h=>by
  simp only[At6,Ad] at hs
  simp only[Rd] at h ⊢
  exact⟨aK hs.1 h.1,aK hs.2 h.2⟩
 | .fn,_,_,hs,_|.sl _,_,_,hs,_|.ptr _,_,_,hs,_=>by simp[At6] at hs
theorem pL (hS:∀ b,S b→S' b∧w'.heap[b]?=w.heap[b]?):∀ {p:List PS} {t:Ty} {f:Fl} {x:t.D} {d d':Dat} {f2:Fl} {x2:t.D} {k k':Key} {L L':Loc} {c cp:List Value},
  yJ p t f x=some d→d.f.base≠.gone→inB p t x→zD w t.size L=some c→vF w t L p=some (d.t,L')→zD w d.t.size L'=some cp →
  AV9 p t f x d'=some (f2,x2)→zN S β H w k t f x c→zN S' β' H w' (k'++xA p) d'.t d'.f d'.x cp →
  (∀ s b,¬ xA p <+: s→β (k++s)=some b→β' (k'++s)=some b∧w'.heap[b]?=w.heap[b]?)→zN S' β' H w' k' t f2 x2 c
 | [],t,f,x,d,d',f2,x2,k,k',L,L',c,cp,hg,hn,hb,hc,hw,hcp,hm,hv,hd,hβ=>by
  simp only[AV9] at hm
  obtain⟨y,hy,e⟩:=Ab.1 hm
  simp only[Af] at e
  obtain⟨rfl,rfl⟩:=e
  obtain⟨rfl,rfl⟩:=wX hy
  simp only[yJ,Aa] at hg
  subst hg
  simp only[vF,Aa,Af,AS] at hw
  subst hw
  rw[hc] at hcp
  simp only[Aa] at hcp
  subst hcp
  simpa[xA] using hd
 | .fst :: p,.pair a b,f,x,d,d',f2,x2,k,k',L,L',c,cp,hg,hn,hb,hc,hw,hcp,hm,hv,hd,hβ=>by
  simp only[AV9] at hm
  obtain⟨y,hy,e⟩:=Ab.1 hm
  obtain⟨rfl,rfl⟩:=e
  have hparts:=wJ hv
  have hc':=zU (i:=0) (m:=a.size) hc (by simp[Ty.size])
  have hv1:=hparts.1
  rw[qO] at hv1
  simp only[vF,xJ] at hw
  simp only[yJ] at hg
  refine mI (vC hv) (sW.2 ⟨?_,?_⟩)
  ·rw[qO]
   exact pL hS (k:=k++[0]) (k':=k'++[0]) hg hn (by simpa[inB] using hb) hc' hw hcp hy hv1 (by simpa[xA] using hd) (fun s b hs hbb=>by
    have:=hβ (0 :: s) b (by simp only[xA,AA,AS];exact hs) (by simpa using hbb)
    simpa using this)
  ·exact zI hS (fun s b hbb=>by
    have:=hβ (1 :: s) b (by simp[xA]) (by simpa using hbb)
    simpa using this) hparts.2
 | .snd :: p,.pair a b,f,x,d,d',f2,x2,k,k',L,L',c,cp,hg,hn,hb,hc,hw,hcp,hm,hv,hd,hβ=>by
  simp only[AV9] at hm
  obtain⟨y,hy,e⟩:=Ab.1 hm
  obtain⟨rfl,rfl⟩:=e
  have hparts:=wJ hv
  have hlen:=oS hc
  simp only[Ty.size] at hlen
  have hc':=zU (i:=a.size) (m:=b.size) hc (by simp[Ty.size])
  have hv1:=hparts.2
  rw[qS hlen] at hv1
  simp only[vF,xJ] at hw
  simp only[yJ] at hg
  refine mI (vC hv) (sW.2 ⟨?_,?_⟩)
  ·exact zI hS (fun s b hbb=>by
    have:=hβ (0 :: s) b (by simp[xA]) (by simpa using hbb)
    simpa using this) hparts.1
  ·rw[qS hlen]
   exact pL hS (k:=k++[1]) (k':=k'++[1]) hg hn (by simpa[inB] using hb) hc' hw hcp hy hv1 (by simpa[xA] using hd) (fun s b hs hbb=>by
    have:=hβ (1 :: s) b (by simp only[xA,AA,AS];exact hs) (by simpa using hbb)
    simpa using this)
 | .idx i :: p,.arr n t,f,x,d,d',f2,x2,k,k',L,L',c,cp,hg,hn,hb,hc,hw,hcp,hm,hv,hd,hβ=>by
  simp only[AV9] at hm
  simp only[inB] at hb
  obtain⟨hi,hb⟩:=hb
  obtain⟨y,hy,hm⟩:=Aq.1 hm
  split at hm
  ·rename_i hwh
   simp only[Ad,Ar] at hwh
   obtain⟨hwh,hye⟩:=hwh
   simp only[Aa,Af] at hm
   obtain⟨rfl,rfl⟩:=hm
   have hne:f.a.base≠.gone:=fun e=>by have:=tQ hwh;rw[e] at this;simp[Fl.whole] at this
   obtain⟨hx,hcl,hel⟩:=mU hne hv
   have hmul:(i+1) * t.size≤n * t.size:=Ac _ hi
   rw[Ah] at hmul
   have hc':=zU (i:=i * t.size) (m:=t.size) hc (by simp only[Ty.size];omega)
   have hv1:=hel i _ (sZ (z:=t.dflt) (by omega))
   simp only[vF,xJ,hi,Az] at hw
   simp only[yJ] at hg
   refine mI (vC hv) (aJ.2 ⟨(BD (as:=(x:List t.D))).trans hx,hcl,fun j z hz=>?_⟩)
   rcases Ao4 hz with ⟨rfl,_,rfl⟩| ⟨hj,hz⟩
   ·rw[← hye]
    exact pL hS (k:=k++[j]) (k':=k'++[j]) hg hn hb hc' hw hcp hy hv1 (by simpa[xA] using hd) (fun s b hs hbb=>by
     have:=hβ (j :: s) b (by simp only[xA,AA,AS];exact hs) (by simpa using hbb)
     simpa using this)
   ·exact zI hS (fun s b hbb=>by
     have:=hβ (j :: s) b (by simp only[xA,AA];exact fun h=>hj h.1.symm) (by simpa using hbb)
     simpa using this) (hel j z hz)
  ·cases hm
 | .der :: p,.ptr t,f,x,d,d',f2,x2,k,k',L,L',c,cp,hg,hn,hb,hc,hw,hcp,hm,hv,hd,hβ=>by
  have core:∀ {e:Fl} {y:Fl × t.D},f.base=.own e→AV9 p t e x d'=some y→∀ {ff:Fl},ff.base=.own y.1→(∀ q ∈ ff.pins,q ∈ f.pins)→zN S' β' H w' k' (.ptr t) ff y.2 c:=by
   intro e y hf hy ff hff hpin
   have hpins:=vC hv
   simp only[zN] at hv ⊢
   refine⟨fun q hq=>hpins q (hpin q hq),?_⟩
   have hv:=hv.2
   rw[hf] at hv
   rw[hff]
   obtain⟨b,cs,rfl,hk,hB,hz,hv⟩:=hv
   have hself:=hβ [] b (by simp[xA]) (by simpa using hk)
   simp only[BC] at hself
   have hge:f.e=e:=by rw[qF,hf];rfl
   simp only[yJ,hge] at hg
   have hc1:zD w 1 L=some [.pointer (some ⟨b,0,none⟩)]:=hc
   simp only[vF,xJ,hc1] at hw
   have hcell:zD w t.size (.mem b 0)=some cs.toList:=by
    rw[zJ hB.blk (by omega),← hz,← A',fG]
   refine⟨b,cs,rfl,hself.1,hB.same hself.2,hz,?_⟩
   exact pL hS (k:=k++[0]) (k':=k'++[0]) hg hn (by simpa[inB] using hb) hcell hw hcp hy hv (by simpa[xA] using hd) (fun s b hs hbb=>by
    have:=hβ (0 :: s) b (by simp only[xA,AA,AS];exact hs) (by simpa using hbb)
    simpa using this)
  cases f with
  | own e=>
   simp only[AV9] at hm
   obtain⟨y,hy,e1⟩:=Ab.1 hm
   obtain⟨rfl,rfl⟩:=e1
   exact core rfl hy rfl (by simp[Fl.pins])
  | pin q g=>
   cases g with
   | own e=>
    simp only[AV9] at hm
    obtain⟨y,hy,e1⟩:=Ab.1 hm
    obtain⟨rfl,rfl⟩:=e1
    exact core rfl hy rfl (by simp[Fl.pins])
   | _=>simp[AV9] at hm
  | _=>simp[AV9] at hm
 | .elm i :: p,.sl t,f,x,d,d',f2,x2,k,k',L,L',c,cp,hg,hn,hb,hc,hw,hcp,hm,hv,hd,hβ=>by
  simp only[inB] at hb
  obtain⟨hi,hb⟩:=hb
  have core:∀ {e:Fl} {y:Fl × t.D},f.base=.own e→AV9 p t e (A9 x i t.dflt) d'=some y→y.1=e→∀ {ff:Fl},ff.base=.own e→(∀ q ∈ ff.pins,q ∈ f.pins)→zN S' β' H w' k' (.sl t) ff (List.set x i y.2) c:=by
   intro e y hf hy hye ff hff hpin
   have hpins:=vC hv
   simp only[zN] at hv ⊢
   refine⟨fun q hq=>hpins q (hpin q hq),?_⟩
   have hv:=hv.2
   rw[hf] at hv
   rw[hff]
   obtain⟨ad,cap,rfl,hlc,hv⟩:=hv
   rcases hv with hcap|⟨b,o,cs,rfl,hk,hB,hz,hv⟩
   ·omega
   have hself:=hβ [] b (by simp[xA]) (by simpa using hk)
   simp only[BC] at hself
   have hge:f.e=e:=by rw[qF,hf];rfl
   simp only[yJ,hge] at hg
   have hc1:zD w 1 L=some [.slice (some ⟨b,o,none⟩) (Ag x) cap]:=hc
   simp only[vF,xJ,hc1,hi,Az] at hw
   have hmul:(i+1) * t.size≤cap * t.size:=Ac _ (by omega)
   rw[Ah] at hmul
   have hcell:zD w t.size (.mem b (o+i * t.size))=some (win cs.toList (o+i * t.size) t.size):=zJ hB.blk (by omega)
   have hlen:(List.set x i y.2).length=Ag x:=BD (as:=(x:List t.D))
   refine⟨_,cap,by rw[hlen],by rw[hlen];exact hlc,.inr ⟨b,o,cs,rfl,hself.1,hB.same hself.2,hz,fun j z hzj=>?_⟩⟩
   rcases Ao4 hzj with ⟨rfl,_,rfl⟩| ⟨hj,hzj⟩
   ·rw[← hye]
    have hvi:=hv j _ (sZ (z:=t.dflt) hi)
    rw[← hye] at hvi hg hy
    exact pL hS (k:=k++[j]) (k':=k'++[j]) hg hn hb hcell hw hcp hy hvi (by simpa[xA] using hd) (fun s b hs hbb=>by
     have:=hβ (j :: s) b (by simp only[xA,AA,AS];exact hs) (by simpa using hbb)
     simpa using this)
   ·exact zI hS (fun s b hbb=>by
     have:=hβ (j :: s) b (by simp only[xA,AA];exact fun h=>hj h.1.symm) (by simpa using hbb)
     simpa using this) (hv j z hzj)
  cases f with
  | own e=>
   simp only[AV9] at hm
   obtain⟨y,hy,e1⟩:=Aq.1 hm
   split at e1
   ·rename_i hye
    simp only[Aa,Af] at e1
    obtain⟨rfl,rfl⟩:=e1
    exact core rfl hy hye rfl (by simp[Fl.pins])
   ·cases e1
  | pin q g=>
   cases g with
   | own e=>
    simp only[AV9] at hm
    obtain⟨y,hy,e1⟩:=Aq.1 hm
    split at e1
    ·rename_i hye
     simp only[Aa,Af] at e1
     obtain⟨rfl,rfl⟩:=e1
     exact core rfl hy hye rfl (by simp[Fl.pins])
    ·cases e1
   | _=>simp[AV9] at hm
  | _=>simp[AV9] at hm
end
section
variable {P:Program} {H:Nat→Option (List Value)} {N:Nat} {g g' σ:zW} {V V':Nat→Option Value} {w w':World} {S S':Nat→Prop} {β β':Key→Option Nat} {a:Act} {o:Oper}
variable {E:Env} {gv:zW} {us:List Up}
theorem A0w {c:Call} {x y:Operand} {t t':TypeId} {val:Value} (ho:o.op=.call c) (hcal:c.callee=.builtin .copy) (hargs:c.args=#[x,y]) (hts:c.argTypes=#[t,t'])
  (hr:(Bm #[t,t'] o.type #[a.eval x,a.eval y]).run P w=.ok val w'):(execOp a.eval o).run P w=.ok (.value val) w':=
 jC ho hcal (s:=Bm #[t,t'] o.type #[a.eval x,a.eval y]) (by rw[hargs,hts,show Cp a.eval #[x,y]=#[a.eval x,a.eval y] by simp];rfl) hr
theorem A3T {t t' ty e:TypeId} {τ:Ty} {z:Value} {len cap n cap2:Nat} {base ad2:Option Addr} {cy:List Value} (h:SlOK E t e τ z) (hn:n≤len)
  (hl:∀ w,(Ai τ.size n (.slice ad2 n cap2)).run E.P w=(Ai τ.size n (.slice ad2 n cap2)).run E.P w) (hf:(Ai τ.size n (.slice ad2 n cap2)).run E.P w=.ok cy.toArray w)
  (hst:∀ a,base=some a→(storeCells a cy 0).run E.P w=.ok () w') (hno:base=none→w'=w):
  (Bm #[t,t'] ty #[.slice base len cap,.slice ad2 n cap2]).run E.P w=.ok (.int .i64 n) w':=by
 have hmin:Nat.min n len=n:=Nat.min_eq_left hn
 unfold Bm
 simp only[AK,Ao,AB,Sem.run_bind,zC h.und,Result.andThen_ok,Sem.run_pure,Bl,uF h.elem,hmin,hf]
 cases base with
 | none=>simp[hno rfl,goInt]
 | some a=>simp[hst a rfl,goInt]
theorem A6v {τ:Ty} {xs ys:List τ.D} (h:ys.length≤xs.length):(A04 τ ys xs).length=xs.length:=by
 unfold A04;rw[Ax,Bj];omega
theorem A71 {τ:Ty} {xs ys:List τ.D} {i:Nat} {v:τ.D} (h:nth (A04 τ ys xs) i=some v) (hl:ys.length≤xs.length):(i < ys.length∧nth ys i=some v)∨(ys.length≤i∧nth xs i=some v):=by
 unfold nth A04 at *
 by_cases hi:i < ys.length
 ·rw[A7 hi] at h;exact .inl ⟨hi,h⟩
 ·rw[A4 (by omega),BP] at h
  rw[show ys.length+(i - ys.length)=i by omega] at h
  exact .inr ⟨by omega,h⟩
theorem A2D {t t':TypeId} {x y:Operand} {c:Call} (hc:Ctx E.P H S β a w o g) (hs:Sub gv g) (ho:o.op=.call c) (hcal:c.callee=.builtin .copy) (hargs:c.args=#[x,y]) (hts:c.argTypes=#[t,t'])
  (hk:A4O gv o (E.sl t) x y some=some us):yF E.P H S β a w o (g.ups us):=by
 unfold A4O at hk
 split at hk
 ·rename_i τ q τ2 ys f2 ht hq hd
  obtain⟨τ3,e0,z0,heq,hok⟩:=A2s ht
  simp only[Ty.sl.injEq] at heq
  subst heq
  split at hk
  ·rename_i e he
   split at hk
   ·rename_i τ' xs hg
    split at hk
    ·rename_i xs1 ys1 hcx hcy
     split at hk
     ·rename_i z hm
      split at hk
      ·rename_i hsc
       simp only[Aj] at hk
       split at hk
       ·rename_i hle
        have hle:Ag ys1≤Ag xs1:=Nat.le_of_ble_eq_true hle
        obtain⟨hex,hx2⟩:=wX hcx
        cases hex
        have hx2:xs1=xs:=hx2
        subst hx2
        obtain⟨hey,hy2⟩:=wX hcy
        cases hey
        have hy2:ys1=ys:=hy2
        subst hy2
        have hat:atP gv q.1 q.2=some ⟨.sl τ,xs1,.own .sh⟩:=by unfold atP;rw[he];exact hg
        obtain⟨hq',hat',hr⟩:=aP hs hq hat
        obtain⟨e1,cr,L,cc,he1,hg1,hb1,hV1,hl1,hvr,hw1,hcc1,hvp,hxv⟩:=eZ hc.rel hq' hat' (by simp[Fl.base])
        have hee:e1=e:=by
         rw[hr,he] at he1
         simpa using he1.symm
        subst hee
        have hvp0:=hvp
        simp only[zN,Fl.base] at hvp0
        obtain⟨_,ad,cap,rfl,hlc,hvp1⟩:=hvp0
        have exv:a.eval x=.slice ad (Ag xs1) cap:=zH hxv
        obtain⟨cyv,hyv,hry⟩:=tM hc.rel (uD hs hd)
        obtain⟨ad2,cap2,cy,hcyv,hel,hfirst⟩:=A22 hry
        rw[hcyv] at hyv
        have eyv:a.eval y=.slice ad2 (Ag ys1) cap2:=zH hyv
        have hqN:=hc.dead.lt (i:=q.1) (by rw[he1];simp)
        have hcells:zD w e1.t.size (.reg cr)=some cr:=by simp[zD,hl1]
        have fin:∀ {w':World},(Bm #[t,t'] o.type #[a.eval x,a.eval y]).run E.P w=.ok (.int .i64 (Ag ys1)) w'→Sane w' S β→(∀ b,S b→w'.heap[b]?=w.heap[b]?) →
          (∀ key b,β key=some b→key≠q.1 :: xA q.2→w'.heap[b]?=w.heap[b]?)→Step w S β w' S β →
          zN S β H w' (q.1 :: xA q.2) (.sl τ) (.own .sh) (A04 τ ys1 xs1) [.slice ad (Ag xs1) cap]→yF E.P H S β a w o (g.ups us):=by
         intro w' hrun hsane hS hβ hst hnew K Q hK
         have hroot:zN S β H w' [q.1] e1.t z.1 z.2 cr:=
          pL (S:=S) (β:=β) (fun b hb=>⟨hb,hS b hb⟩) (k:=[q.1]) (k':=[q.1]) hg1 (by simp[Fl.base]) hb1 hcells hw1 hcc1 hm hvr hnew (fun s b hp hb=>⟨hb,hβ _ b hb (fun e=>by
           simp only[A5,Bc,Ak,AS] at e
           exact hp (e▸List.prefix_refl _))⟩)
         have hrel:Rel H a.tmps.size (g.up (.mod q.1 (.dat ⟨e1.t,z.2,z.1⟩))) (qD a) w' S β:=
          hc.rel.mod he1 rfl hsane (fun b hb=>⟨hb,hS b hb⟩) (fun j s b hj _ hb=>⟨hb,hβ _ b hb (fun e=>hj (by simp only[Ak] at e;exact e.1))⟩) ⟨cr,hroot,hV1⟩
         have hD1:yD a.tmps.size (g.up (.mod q.1 (.dat ⟨e1.t,z.2,z.1⟩))):=hc.dead.up hqN
         split at hk
         ·rename_i d hdst
          split at hk
          ·cases hk
          ·simp only[Aa] at hk;rw[← hk] at hK
           have hdN:=xF hc.opIn hdst
           refine uH (A0w ho hcal hargs hts hrun) (hK _ _ S β wG yN ?_ hst)
           rw[hdst,vE hdN]
           exact hrel.finish (fun _ _=>rfl) hD1 (fun _ _=>rfl) hdN hsane (fun b hb=>⟨hb,rfl⟩) (fun _ _ _ _ _ hb=>⟨hb,rfl⟩) BC3
         ·rename_i hdst
          simp only[Aa] at hk;rw[← hk] at hK
          refine uH (A0w ho hcal hargs hts hrun) (hK _ _ S β wG yN ?_ hst)
          rw[hdst]
          exact hrel
        rcases hvp1 with hcap|⟨b,oo,cs,rfl,hkb,hob,hz,helx⟩
        ·
         have hx0:xs1=[]:=Am.1 (by omega)
         subst hx0
         have hy0:ys1=[]:=Am.1 (by simpa using hle)
         subst hy0
         have hcy0:cy=[]:=Am.1 (by have:=hel.len;simpa using this)
         refine fin (w':=w) (by rw[exv,eyv];exact A3T hok (Al _) (fun _=>rfl) (hfirst w rfl) (fun a _=>by rw[hcy0];simp[storeCells]) (fun _=>rfl)) hc.rel.sane (fun _ _=>rfl) (fun _ _ _ _=>rfl) .refl ?_
         exact hvp
        ·obtain⟨el,fz,hbl,hf⟩:=hob
         have hlz:Ag ys1 * τ.size≤Ag xs1 * τ.size:=Ac _ hle
         have hlz2:Ag xs1 * τ.size≤cap * τ.size:=Ac _ hlc
         have hcl:cy.length=Ag ys1 * τ.size:=hel.len
         have hle2:oo+cy.length≤cs.size:=by omega
         obtain⟨w',cs',k1,k2,k3,k4,k5,k6⟩:=qW (P:=E.P) (vs:=cy) (i:=0) (o:=oo) hbl (fun j hj=>⟨by omega,hf.1 _ (by omega)⟩) hel.one
         rw[Ay] at k3
         have hchg:Chg w w' b oo cy:=⟨k4,⟨cs,el,fz,cs',hbl,k2,k3,hle2⟩,k6⟩
         have hsz:cs'.size=cs.size:=by
          have:=AX Ag k3
          rw[jW (by simpa using hle2)] at this
          simpa using this
         have hne:∀ b',S b'→b'≠b:=fun b' hb' e=>hc.rel.sane.sep _ _ hkb (e▸hb')
         refine fin (w':=w') (by rw[exv,eyv];exact A3T hok hle (fun _=>rfl) (hfirst w rfl) (fun a' ha'=>by simp only[Aa] at ha';subst ha';exact k1) (fun h=>by cases h))
          ⟨hc.rel.sane.inj,hc.rel.sane.sep,fun k b hk=>by rw[k5];exact hc.rel.sane.live k b hk,fun b hk=>by rw[k5];exact hc.rel.sane.liveS b hk,hc.rel.sane.tabs fun b' hb=>⟨hb,k4 b' (hne b' hb)⟩⟩
          (fun b' hb'=>k4 b' (hne b' hb')) (fun key b' hb' hkey=>k4 b' (fun e=>hkey (hc.rel.sane.inj _ _ _ (e▸hb') hkb))) (Step.store hkb hchg k5) ?_
         have hlen:Ag (A04 τ ys1 xs1)=Ag xs1:=by
          exact A6v hle
         simp only[zN,Fl.base]
         refine⟨by simp[pN,Fl.pins],_,cap,by rw[hlen],by rw[hlen];exact hlc,.inr ⟨b,oo,cs',rfl,hkb,⟨el,fz,k2,by rw[hsz];exact hf⟩,by rw[hsz];exact hz,fun i v hi=>?_⟩⟩
         rw[yO,k3]
         rcases A71 hi hle with ⟨hlt,hi⟩| ⟨hge,hi⟩
         ·have hlt2:(i+1) * τ.size≤Ag ys1 * τ.size:=Ac _ hlt
          rw[Ah,Av] at hlt2
          rw[← pB (n:=cy.length) (by omega),mK (by simpa using hle2)]
          exact aK hsc (hel.get i v hi)
         ·have hge2:Ag ys1 * τ.size≤i * τ.size:=Ac _ hge
          rw[vG (by simpa using hle2) (.inr (by omega))]
          have:=helx i v hi
          rw[yO] at this
          exact aK hsc this
       ·cases hk
      ·cases hk
     ·cases hk
    ·cases hk
   ·cases hk
  ·cases hk
 ·cases hk
theorem A24 {ty:TypeId→Option Ty}:∀ {i:Nat} {fs:List Field} {off:Nat} {τ:Ty} {y:τ.D} {c:List Value} {e:Dat},qU ty fs off=some τ→Rd S w τ y c→yJ (zG i) τ .sh y=some e →
  ∃ fl,fs[i]?=some fl∧ty fl.type=some e.t∧off≤fl.offset∧fl.offset - off+e.t.size≤c.length∧Rd S w e.t e.x (win c (fl.offset - off) e.t.size)∧e.f=.sh
 | i,[],off,τ,y,c,e,h,hr,hg=>by
  simp only[qU,Aa] at h;subst h
  cases i<;>simp[zG,yJ] at hg
 | i,fl :: fs,off,τ,y,c,e,h,hr,hg=>by
  simp only[qU] at h
  split at h
  ·rename_i a ha
   split at h
   ·rename_i ho
    simp only[A3] at ho
    simp only[Ab] at h
    obtain⟨τ',h,rfl⟩:=h
    have hlen:=tC hr
    simp only[Rd] at hr
    have hl1:=tC hr.1
    have hl2:=tC hr.2
    rw[BZ] at hl1
    rw[Bj] at hl2
    cases i with
    | zero=>
     simp only[zG,yJ,Aa] at hg
     subst hg
     refine⟨fl,rfl,ha,by omega,by rw[ho];simp only[BX,A2];omega,?_,rfl⟩
     rw[ho,BX]
     simpa[win] using hr.1
    | succ i=>
     simp only[zG,yJ] at hg
     obtain⟨fl',h1,h2,h3,h4,h5,h6⟩:=A24 h hr.2 hg
     rw[Bj] at h4
     refine⟨fl',by simpa using h1,h2,by omega,by omega,?_,h6⟩
     have:win (c.drop a.size) (fl'.offset - (off+a.size)) e.t.size=win c (fl'.offset - off) e.t.size:=by
      unfold win
      rw[BG]
      congr 2
      omega
     rw[← this];exact h5
   ·cases h
  ·cases h
theorem Ay7 {t:TypeId} {x:Operand} {i:Nat} (hc:Ctx E.P H S β a w o g) (hs:Sub gv g) (ho:o.op=.field t x i)
  (hk:Ag7 gv o (E.ty t) x i some=some us):yF E.P H S β a w o (g.ups us):=by
 unfold Ag7 at hk
 split at hk
 ·rename_i ta tb y hx
  split at hk
  ·rename_i ht
   split at hk
   ·rename_i e hg
    split at hk
    ·obtain⟨fs,hfs,hch⟩:=A2p (ht:tyN E.P (7+1) t=_)
     have hr:∃ c,evl (qD a) x=some (zV (.pair ta tb) c)∧Rd S w (.pair ta tb) y c:=by
      rcases pP hc.rel (hs.sv hx (by simp)) with ⟨s,rfl,hs'⟩| ⟨_,c,hcc,hr⟩
      ·obtain⟨c,hv,hV⟩:=hc.rel.dat hs'
       exact⟨c,hV,yO.1 hv⟩
      ·exact⟨c,hcc,hr⟩
     obtain⟨c,hcv,hr⟩:=hr
     have ex:a.eval x=.agg c.toArray:=zH hcv
     obtain⟨fl,h1,h2,_,h4,h5,h6⟩:=A24 hch hr hg
     rw[Nat.sub_zero] at h4 h5
     obtain⟨te,xe,fe⟩:=e
     simp only at h6 h5 h4 h2
     subst h6
     refine DV.look (d:=⟨te,xe,.sh⟩) ⟨rfl,_,h5,rfl⟩ hc.rel hc.dead hc.opIn hk ?_
     have hf':fs[i]?=some fl:=by simpa using h1
     have hrun:(Instr.field t (.agg c.toArray) i).run E.P w=.ok (zV te (win c fl.offset te.size)) w:=by
      simp only[Instr.field,Sem.run_bind,zC hfs,Result.andThen_ok,hf',asAgg,Sem.run_pure,AW1 (d:=6) h2 h4]
     simp only[execOp,ho,ex,Sem.run_bind,hrun,Result.andThen_ok,Sem.run_pure]
    ·cases hk
   ·cases hk
  ·cases hk
 ·cases hk
end
end Go.Rf

end
section
namespace Go.Rf
set_option linter.unusedSectionVars false
variable [T:Laid]
section
variable {P:Program} {H:Nat→Option (List Value)} {N:Nat} {g g' σ:zW} {V V':Nat→Option Value} {w w':World} {S S':Nat→Prop} {β β':Key→Option Nat} {a:Act} {o:Oper}
variable {E:Env} {gv:zW} {us:List Up}
theorem Ag9 {α:Type} {xs:Array α} {x:α} (h:xs.toList=[x]):xs=#[x]:=AG.1 h
theorem AB3 {α:Type} {xs:Array α} {x y:α} (h:xs.toList=[x,y]):xs=#[x,y]:=AG.1 h
theorem Ae1 {b:Builtin} {c:Call} (hc:Ctx E.P H S β a w o g) (hs:Sub gv g) (hm:o.op=.call c) (hcal:c.callee=.builtin b)
  (hk:AA2 E gv o b c some=some us):yF E.P H S β a w o (g.ups us):=by
 unfold AA2 at hk
 split at hk
 ·rename_i x t h1 h2
  exact A38 (ty:=o.type) hc hs hm hcal (Ag9 h1) (Ag9 h2) hk
 ·rename_i x y t t' h1 h2
  exact As1 hc hs hm hcal (AB3 h1) (AB3 h2) hk
 ·exact A40 hc hs hm hcal rfl hk
 ·rename_i x y t t' h1 h2
  exact A2D hc hs hm hcal (AB3 h1) (AB3 h2) hk
 ·cases hk
theorem A5o {R:Run E} {mv:Bool} (hc:Ctx E.P H S β a w o g) (hs:Sub gv g)
  (hcall:∀ c f,o.op=.call c→c.callee=.value (.func f)→AV3 E R gv o f c.args.toList some=some us→yF E.P H S β a w o (g.ups us))
  (hcallv:∀ c s v f,o.op=.call c→c.callee=.value (.tmp s)→yK gv (gv s).sv=some ⟨.fn,v,f⟩→cX E R gv o v c.args.toList c.argTypes.toList some=some us→yF E.P H S β a w o (g.ups us))
  (hk:opK E R mv gv o some=some us):yF E.P H S β a w o (g.ups us):=by
 unfold opK at hk
 split at hk
 ·rename_i hm;exact A2E hc hs hm hk
 ·rename_i hm;exact An2 hc hs hm hk
 ·rename_i hm;exact A07 hc hs hm hk
 ·rename_i hm;exact Ax4 hc hm hk
 ·rename_i hm;exact A4w hc hs hm hk
 ·rename_i hm;exact A0O hc hs hm hk
 ·rename_i hm;exact AQ0 hc hs hm hk
 ·rename_i hm;exact A1x hc hs hm hk
 ·rename_i hm;exact Av9 hc hs hm hk
 ·rename_i hm;exact A3v hc hs hm hk
 ·rename_i hm
  split at hk
  ·rename_i hy;exact A3s hc hs hm hy hk
  ·exact A4e hc hs hm hk
 ·rename_i hm;exact A6W hc hs hm hk
 ·rename_i s t x hm
  by_cases hb:E.ty s=some .str∧E.ty t=some (.sl (.int .u8))
  ·exact Ae0 hc hs hm hb.1 hb.2 hk
  ·exact A1G hc hs hm hb hk
 ·rename_i h first caps hm
  split at hk
  ·rename_i he
   have:first=#[]:=AG.1 (Bi.1 he)
   subst this
   split at hk
   ·rename_i rs hr;exact AZ9 hc hs hm hr hk
   ·cases hk
  ·cases hk
 ·rename_i hm;exact AU7 hc hs hm hk
 ·rename_i hm;exact A0U hc hs hm hk
 ·rename_i hm;exact AV1 hc hs hm hk
 ·rename_i hm;exact AU9 hc hs hm hk
 ·rename_i hm;exact A0H hc hs hm hk
 ·rename_i hm;exact Af2 hc hs hm hk
 ·rename_i hm;exact Ay7 hc hs hm hk
 ·rename_i c hm
  split at hk
  ·rename_i b hcal;exact Ae1 hc hs hm hcal hk
  ·rename_i f hcal;exact hcall c f hm hcal hk
  ·rename_i s hcal
   split at hk
   ·rename_i v f hd;exact hcallv c s v f hm hcal hd hk
   ·cases hk
  ·cases hk
 ·cases hk
end
end Go.Rf

end
section
namespace Go.Rf
set_option linter.unusedSectionVars false
variable [T:Laid]
variable {ρ:Type}
theorem yP {o:Oper} {us:List Up} {v:SV} {κ:List Up→Option ρ}:rW o us v κ=(rW o us v some).bind κ:=by
 unfold rW;split<;>rfl
theorem A5C {α γ:Type} {b:Bool} {x y:Option α} {f:α→Option γ}:(cond b x y).bind f=cond b (x.bind f) (y.bind f):=by cases b<;>rfl
theorem A4X {g:zW} {mv:Bool} {o:Oper} {t:Option Ty} {x:Operand} {κ:List Up→Option ρ}:A2T g mv o t x κ=(A2T g mv o t x some).bind κ:=by
 unfold A2T;(repeat' split)<;>first|rfl|exact yP
theorem A6z {g:zW} {o:Oper} {x:Operand} {κ:List Up→Option ρ}:BF9 g o x κ=(BF9 g o x some).bind κ:=by
 unfold BF9;(repeat' split)<;>first|rfl|exact yP
theorem A0C {g:zW} {mv:Bool} {o:Oper} {t:Option Ty} {x:Operand} {κ:List Up→Option ρ}:AO1 g mv o t x κ=(AO1 g mv o t x some).bind κ:=by
 unfold AO1;(repeat' split)<;>first|rfl|exact yP
theorem A4v {g:zW} {o:Oper} {t:Option Ty} {x:Operand} {κ:List Up→Option ρ}:A4P g o t x κ=(A4P g o t x some).bind κ:=by
 unfold A4P;(repeat' split)<;>first|rfl|exact yP
theorem Al1 {α:Type} {κ:α→Option ρ} {x:Option α}:∀ {cs:List Bool},(A1W cs x).bind κ=A1W cs (x.bind κ)
 | []=>rfl
 | b :: l=>by simp only[A1W];rw[A5C,Al1];rfl
theorem A1w {g:zW} {mv:Bool} {o:Oper} {t:Option Ty} {x y:Operand} {κ:List Up→Option ρ}:Ah1 g mv o t x y κ=(Ah1 g mv o t x y some).bind κ:=by
 unfold Ah1;(repeat' split)<;>first|rfl|(rw[Al1];rfl)
theorem Ad2 {g:zW} {o:Oper} {t:Option Ty} {x:Operand} {i:Nat} {κ:List Up→Option ρ}:iJ g o t x i κ=(iJ g o t x i some).bind κ:=by
 unfold iJ;(repeat' split)<;>first|rfl|exact yP
theorem Aa6 {g:zW} {o:Oper} {t:Option Ty} {x i:Operand} {κ:List Up→Option ρ}:iA g o t x i κ=(iA g o t x i some).bind κ:=by
 unfold iA;simp only[Aj];(repeat' split)<;>first|rfl|exact yP
theorem A1t {g:zW} {o:Oper} {t:Option Ty} {x i:Operand} {κ:List Up→Option ρ}:Ak6 g o t x i κ=(Ak6 g o t x i some).bind κ:=by
 unfold Ak6;simp only[Aj];(repeat' split)<;>first|rfl|exact yP
theorem A1j {E:Env} {g:zW} {mv:Bool} {o:Oper} {t:TypeId} {ps:Array (Nat × Operand)} {κ:List Up→Option ρ}:Ai5 E g mv o t ps κ=(Ai5 E g mv o t ps some).bind κ:=by
 unfold Ai5;(repeat' split)<;>first|rfl|exact yP
theorem AU8 {E:Env} {g:zW} {mv:Bool} {o:Oper} {t:TypeId} {n:Nat} {ps:Array (Nat × Operand)} {κ:List Up→Option ρ}:mZ E g mv o t n ps κ=(mZ E g mv o t n ps some).bind κ:=by
 unfold mZ;(repeat' split)<;>first|rfl|exact yP
theorem Ab9 {E:Env} {g:zW} {mv:Bool} {o:Oper} {t:TypeId} {l c:Operand} {κ:List Up→Option ρ}:iH E g mv o t l c κ=(iH E g mv o t l c some).bind κ:=by
 unfold iH;simp only[Aj];(repeat' split)<;>first|rfl|exact yP
theorem eO {x:Option SV} {d:Nat} {κ:Nat→Option (List Up)} {κ':List Up→Option ρ}:(AM5 x d κ).bind κ'=AM5 x d fun n=>(κ n).bind κ':=by
 unfold AM5;simp only[Aj];(repeat' split)<;>first|rfl
theorem A1L {g:zW} {o:Oper} {t:Option Ty} {x:Operand} {lo hi:Option Operand} {κ:List Up→Option ρ}:Al7 g o t x lo hi κ=(Al7 g o t x lo hi some).bind κ:=by
 unfold Al7
 split
 ·rw[eO];congr;funext h;rw[eO];congr;funext l
  simp only[Aj];(repeat' split)<;>first|rfl|exact yP
 ·split
  ·split
   ·rw[eO];congr;funext h;rw[eO];congr;funext l
    simp only[Aj];(repeat' split)<;>first|rfl|exact yP
   ·rfl
  ·rfl
 ·rfl
theorem A0I {g:zW} {o:Oper} {t t':Option Ty} {x y:Operand} {κ:List Up→Option ρ}:AN9 g o t t' x y κ=(AN9 g o t t' x y some).bind κ:=by
 unfold AN9;simp only[Aj];(repeat' split)<;>first|rfl|exact yP
theorem A60 {g:zW} {o:Oper} {t:Option Ty} {x:Operand} {κ:List Up→Option ρ}:BG7 g o t x κ=(BG7 g o t x some).bind κ:=by
 unfold BG7;(repeat' split)<;>first|rfl|exact yP
theorem A6Q {g:zW} {o:Oper} {xs:List Operand} {κ:List Up→Option ρ}:BG2 g o xs κ=(BG2 g o xs some).bind κ:=by
 unfold BG2;(repeat' split)<;>first|rfl|exact yP
theorem Ar9 {g:zW} {o:Oper} {x:Operand} {i:Nat} {κ:List Up→Option ρ}:gV g o x i κ=(gV g o x i some).bind κ:=by
 unfold gV;(repeat' split)<;>first|rfl|exact yP
theorem A4s {g:zW} {o:Oper} {c x y:Operand} {κ:List Up→Option ρ}:A3V g o c x y κ=(A3V g o c x y some).bind κ:=by
 unfold A3V
 split
 ·rename_i t _
  cases t
  ·simp only[BU];split<;>first|rfl|exact yP
  ·simp only[Cc];split<;>first|rfl|exact yP
 ·rfl
theorem A18 {E:Env} {mv:Bool} {o:Oper} {t:TypeId} {κ:List Up→Option ρ}:Ai9 E mv o t κ=(Ai9 E mv o t some).bind κ:=by
 unfold Ai9;(repeat' split)<;>first|rfl|exact yP
theorem A7F {E:Env} {g:zW} {mv:Bool} {o:Oper} {t:TypeId} {x:Operand} {κ:List Up→Option ρ}:BF5 E g mv o t x κ=(BF5 E g mv o t x some).bind κ:=by
 unfold BF5;(repeat' split)<;>first|rfl|exact yP
theorem A5H {op:BinOp} {k k':IntKind} {x y:Int} {o:Oper} {κ:List Up→Option ρ}:BG4 op k x k' y (fun d=>rW o [] (.dat d) κ)=(BG4 op k x k' y (fun d=>rW o [] (.dat d) some)).bind κ:=by
 unfold BG4;simp only[Aj];(repeat' split)<;>first|rfl|exact yP
theorem A5D {op:BinOp} {t:Option Ty} {x y:SV} {o:Oper} {κ:List Up→Option ρ}:BG0 op t x y (fun d=>rW o [] (.dat d) κ)=(BG0 op t x y (fun d=>rW o [] (.dat d) some)).bind κ:=by
 unfold BG0
 split
 ·exact A5H
 ·unfold BN5;simp only[Aj];(repeat' split)<;>first|rfl|exact yP
 ·(repeat' split)<;>first|rfl|exact yP
 ·rfl
theorem A6i {E:Env} {op:BinOp} {t:TypeId} {x y:SV} {o:Oper} {κ:List Up→Option ρ}:BG3 E op t x y (fun d=>rW o [] (.dat d) κ)=(BG3 E op t x y (fun d=>rW o [] (.dat d) some)).bind κ:=by
 unfold BG3
 split
 ·(repeat' split)<;>first|rfl|exact yP
 ·exact A5D
theorem A6m {g:zW} {o:Oper} {op:BinOp} {t:Option Ty} {x:Operand} {κ:List Up→Option ρ}:BF8 g o op t x κ=(BF8 g o op t x some).bind κ:=by
 unfold BF8
 (repeat' split)<;>first|rfl|(generalize AR _ _=q;cases q<;>exact yP)
theorem A8j {op:UnOp} {x:SV} {o:Oper} {κ:List Up→Option ρ}:unK op x (fun d=>rW o [] (.dat d) κ)=(unK op x (fun d=>rW o [] (.dat d) some)).bind κ:=by
 unfold unK;(repeat' split)<;>first|rfl|exact yP
theorem A4F {s t:Option Ty} {x:Option Dat} {o:Oper} {κ:List Up→Option ρ}:Af8 s t x (fun d=>rW o [] (.dat d) κ)=(Af8 s t x (fun d=>rW o [] (.dat d) some)).bind κ:=by
 unfold Af8;(repeat' split)<;>first|rfl|exact yP
theorem iY {E:Env} {R:Run E} {g:zW} {o:Oper} {f:FuncId} {xs:List Operand} {κ:List Up→Option ρ}:AD1 E R g o f xs κ=(AD1 E R g o f xs some).bind κ:=by
 unfold AD1
 split
 ·split
  ·split
   ·rw[B1]
    congr
    funext x
    (repeat' split)<;>rfl
   ·rfl
  ·rfl
 ·rfl
theorem A4A {E:Env} {R:Run E} {g:zW} {o:Oper} {f:FuncId} {xs:List Operand} {κ:List Up→Option ρ}:AV3 E R g o f xs κ=(AV3 E R g o f xs some).bind κ:=by
 unfold AV3
 rw[iY (κ:=fun us=>κ (softs o.dst g us)),iY (κ:=fun us=>some (softs o.dst g us)),B1]
 rfl
theorem A1U {E:Env} {R:Run E} {g:zW} {o:Oper} {v:FnVal} {xs:List Operand} {ts:List TypeId} {κ:List Up→Option ρ}:cX E R g o v xs ts κ=(cX E R g o v xs ts some).bind κ:=by
 unfold cX
 split
 ·split
  ·rw[B1]
   congr
   funext x
   exact yP
  ·rfl
 ·rfl
theorem A1H {g:zW} {o:Oper} {t:Option Ty} {x:Operand} {i:Nat} {κ:List Up→Option ρ}:Ag7 g o t x i κ=(Ag7 g o t x i some).bind κ:=by
 unfold Ag7;(repeat' split)<;>first|rfl|exact yP
theorem A4y {g:zW} {o:Oper} {t:Option Ty} {x y:Operand} {κ:List Up→Option ρ}:A4O g o t x y κ=(A4O g o t x y some).bind κ:=by
 unfold A4O;simp only[Aj];(repeat' split)<;>rfl
theorem As3 {E:Env} {g:zW} {o:Oper} {b:Builtin} {c:Call} {κ:List Up→Option ρ}:AA2 E g o b c κ=(AA2 E g o b c some).bind κ:=by
 unfold AA2
 split
 ·exact A60
 ·exact A0I
 ·exact A6Q
 ·exact A4y
 ·rfl
theorem dX {E:Env} {R:Run E} {mv:Bool} {g:zW} {o:Oper} {κ:List Up→Option ρ}:opK E R mv g o κ=(opK E R mv g o some).bind κ:=by
 unfold opK
 split
 ·exact A4X
 ·exact A0C
 ·exact A4s
 ·exact A18
 ·exact A7F
 ·exact A1j
 ·exact AU8
 ·exact A4v
 ·exact A1w
 ·exact A6z
 ·split
  ·exact A6m
  ·exact A6i
 ·exact A8j
 ·exact A4F
 ·(repeat' split)<;>first|rfl|exact yP
 ·exact Ab9
 ·exact A1L
 ·exact Ad2
 ·exact Aa6
 ·exact A1t
 ·exact Ar9
 ·exact A1H
 ·split
  ·exact As3
  ·exact A4A
  ·split
   ·exact A1U
   ·rfl
  ·rfl
 ·rfl
end Go.Rf

end
section
namespace Go.Rf
set_option linter.unusedSectionVars false
variable [T:Laid]
section
variable {P:Program} {H:Nat→Option (List Value)} {N:Nat} {g g' σ:zW} {V V':Nat→Option Value} {w w':World} {S S':Nat→Prop} {β β':Key→Option Nat} {a:Act} {o:Oper}
variable {E:Env} {gv:zW} {us:List Up} {ρ:Type}
theorem A6R {l:List Slot} {i:Nat} (h:l.length≤i):(at? l i).sv=.dead:=by
 unfold at?;simp[A9,AL h,Slot.dead]
theorem A7Y {l:List Slot}:yD l.length (at? l):=fun _ hi=>A6R hi
theorem AO9 {l:List Slot} {u:Up}:(upL l u).length=l.length:=by simp[upL]
theorem rG:∀ {us:List Up} {l:List Slot},(oQ l us).length=l.length
 | [],_=>rfl
 | u :: us,l=>by simp only[oQ];rw[rG,AO9]
theorem A7T {l:List Slot} {u:Up} {i:Nat} (hi:i < l.length):at? (upL l u) i=(zW.up (at? l) u) i:=by
 unfold at? upL
 by_cases e:i=u.slot
 ·subst e
  rw[pF]
  simp[A9,hi,at?]
 ·rw[sQ e]
  simp[A9,AV,B7 e]
theorem A5p:∀ {us:List Up} {l:List Slot} {g:zW},(∀ i,i < l.length→at? l i=g i)→∀ i,i < l.length→at? (oQ l us) i=(g.ups us) i
 | [],_,_,h=>h
 | u :: us,l,g,h=>by
  intro i hi
  simp only[oQ]
  refine A5p (g:=g.up u) (fun j hj=>?_) i (by rw[AO9];exact hi)
  rw[AO9] at hj
  rw[A7T hj]
  by_cases e:j=u.slot
  ·subst e;rw[pF,pF,h _ hj]
  ·rw[sQ e,sQ e,h j hj]
theorem A2r {l:List Slot} {fp:List Nat}:Sub (tX l fp) (at? l):=fun i=>by
 unfold tX
 by_cases h:(fp.any (AR i ·))=true
 ·right;simp[h]
 ·left;simp[h,Slot.dead]
theorem aZ {l:List Slot} {i:Nat} {v:SV} (h:(at? l i).sv=v):Ag1 l i v=l:=by
 unfold Ag1
 by_cases hi:i < l.length
 ·apply AC
  intro j
  rw[AV]
  split
  ·rename_i e;subst e
   have:at? l i=l[i]:=by simp[at?,A9,hi]
   rw[A1 hi,← this,← h]
  ·rfl
 ·rw[List.set_eq_of_length_le (by omega)]
def AG7 (E:Env) (R:Run E):Prop:=∀ (H:Nat→Option (List Value)) (S:Nat→Prop) (β:Key→Option Nat) (a:Act) (w:World) (o:Oper) (g gv:zW) (us:List Up),
 Ctx E.P H S β a w o g→Sub gv g →
  (∀ c f,o.op=.call c→c.callee=.value (.func f)→AV3 E R gv o f c.args.toList some=some us→yF E.P H S β a w o (g.ups us)) ∧
  (∀ c s v f,o.op=.call c→c.callee=.value (.tmp s)→yK gv (gv s).sv=some ⟨.fn,v,f⟩→cX E R gv o v c.args.toList c.argTypes.toList some=some us→yF E.P H S β a w o (g.ups us))
theorem A7L {R:Run E} (hR:AG7 E R) {mv:Bool} {l:List Slot} {fp:List Nat} {κ:List Up→Option ρ} {r:ρ} {K:Act→World→Prop} {Q:Exit→Act→World→Prop} (hl:l.length=a.tmps.size) (h:Rel H a.tmps.size (at? l) (qD a) w S β) (hi:opIn a.tmps.size o=true)
  (hk:opK E R mv (tX l fp) o κ=some r)
  (hK:∀ us a' w' S' β',κ us=some r→a'.tmps.size=a.tmps.size→a'.defers=a.defers→Rel H a.tmps.size (at? (oQ l us)) (qD a') w' S' β'→Step w S β w' S' β'→K a' w'):o.wp E.P a w K Q:=by
 rw[dX] at hk
 obtain⟨us,h1,h2⟩:=Aq.1 hk
 have hc:Ctx E.P H S β a w o (at? l):=⟨h,hl▸A7Y,hi⟩
 obtain⟨c1,c2⟩:=hR H S β a w o (at? l) (tX l fp) us hc A2r
 refine A5o hc A2r c1 c2 h1 K Q fun a' w' S' β' e1 e2 e3 e4=>hK us a' w' S' β' h2 e1 e2 (e3.fin (fun i hi=>?_) (fun i hi=>?_) (fun _ _=>rfl)) e4
 ·exact A5p (fun _ _=>rfl) i (by omega)
 ·exact A6R (by rw[rG];omega)
theorem Rel.unset {d:Nat} {l:List Slot} (hl:l.length=a.tmps.size) (h:Rel H a.tmps.size (at? l) (qD a) w S β) (hd:d < a.tmps.size):Rel H a.tmps.size (at? (upL l (.put d .und))) (qD (a.put (some d) undef)) w S β:=by
 rw[vE hd]
 have h1:Rel H a.tmps.size (zW.up (at? l) (.put d .und)) (upd (qD a) d undef) w S β:=
  h.put h.sane (fun b hb=>⟨hb,rfl⟩) (fun _ _ _ _ _ hb=>⟨hb,rfl⟩) (fun j hj=>by simp[upd,hj]) (by simp[rR,upd])
 refine h1.fin (fun i hi=>A7T (by omega)) (fun i hi=>A6R (by rw[AO9];omega)) (fun _ _=>rfl)
theorem AG3 {all:List Oper} {j g:Nat} {l:List Slot} {t:Bool} (h:Rel H N (at? l) (qD a) w S β) (hg:(all[j]?).bind BJ=some g) (hv:(at? l g).sv=.dat ⟨.bool,t,.sh⟩):yielded all.toArray a.tmps j=some t:=by
 have:=AO5 (x:=.tmp g) h (show sv (at? l) (.tmp g)=_ from hv) kA
 simp only[evl,qD] at this
 unfold yielded
 simp only[AK]
 rw[hg]
 simp[this]
theorem AX5 {all:List Oper} {j g:Nat} {l:List Slot} (h:Rel H N (at? l) (qD a) w S β) (hg:(all[j]?).bind BJ=some g) (hv:(at? l g).sv=.und):yielded all.toArray a.tmps j=none:=by
 have:=h.slots g
 rw[hv] at this
 simp only[rR,qD] at this
 unfold yielded
 simp only[AK]
 rw[hg]
 simp[this,undef]
theorem dQ {R:Run E} (hR:AG7 E R) {mv:List Nat} {all:List Oper} {κ:List Slot→Option ρ} {r:ρ} {Q:Exit→Act→World→Prop}:∀ {os:List Oper} {i:Nat} {l:List Slot} {acc:List Rec} {a:Act} {w:World} {S:Nat→Prop} {β:Key→Option Nat},
  l.length=a.tmps.size→Rel H a.tmps.size (at? l) (qD a) w S β→(∀ o ∈ os,opIn a.tmps.size o=true) →
  jH E R mv all false os i l acc κ=some r →
  (∀ l' a' w' S' β',l'.length=a.tmps.size→κ l'=some r→a'.tmps.size=a.tmps.size→a'.defers=a.defers→Rel H a.tmps.size (at? l') (qD a') w' S' β'→Step w S β w' S' β'→Q .normal a' w') →
  wpList E.P all.toArray Q os a w
 | [],i,l,acc,a,w,S,β,hl,h,_,hk,hQ=>hQ l a w S β hl hk rfl rfl h .refl
 | o :: os,i,l,acc,a,w,S,β,hl,h,hin,hk,hQ=>by
  have hgo:∀ {gs:List Nat} {l:List Slot},l.length=a.tmps.size→Rel H a.tmps.size (at? l) (qD a) w S β →
    opK E R (mv.any (AR i ·)) (tX l (Ad7 o l)) o (fun us=>jH E R mv all false os (i+1) (oQ l us) (acc++[AJ9 (mv.any (AR i ·)) gs l o us]) κ)=some r →
    AP o (yielded all.toArray a.tmps)=true→wpList E.P all.toArray Q (o :: os) a w:=by
   intro gs l hl h hk hw
   unfold wpList
   rw[AE hw]
   left
   refine A7L hR hl h (hin o (by simp)) hk fun us a' w' S' β' e0 e1 e2 e3 e4=>?_
   refine dQ hR (l:=oQ l us) (by rw[rG,hl,e1]) (by rw[e1];exact e3) (fun o ho=>by rw[e1];exact hin o (by simp[ho])) e0 ?_
   intro l' a'' w'' S'' β'' f1 f2 f3 f4 f5 f6
   exact hQ l' a'' w'' S'' β'' (f1.trans e1) f2 (f3.trans e1) (f4.trans e2) (by rw[← e1];exact f5) (e4.trans f6)
  have hskip:∀ {gs:List Nat} {l:List Slot},l.length=a.tmps.size→Rel H a.tmps.size (at? l) (qD a) w S β →
    (match o.dst with
     | some d=>jH E R mv all false os (i+1) (upL l (.put d .und)) (acc++[⟨gs,[d],[],[d],[],[d]⟩]) κ
     | none=>jH E R mv all false os (i+1) l (acc++[⟨gs,[],[],[],[],[]⟩]) κ)=some r →
    AP o (yielded all.toArray a.tmps)=false→wpList E.P all.toArray Q (o :: os) a w:=by
   intro gs l hl h hk hw
   unfold wpList
   rw[As (by rw[hw];simp)]
   split at hk
   ·rename_i d hd
    have hdN:=xF (hin o (by simp)) hd
    rw[hd]
    have hs:(a.put (some d) undef).tmps.size=a.tmps.size:=wG
    refine dQ hR (l:=upL l (.put d .und)) (by rw[AO9,hl,hs]) (by rw[hs];exact h.unset hl hdN) (fun o ho=>by rw[hs];exact hin o (by simp[ho])) hk ?_
    intro l' a'' w'' S'' β'' f1 f2 f3 f4 f5 f6
    exact hQ l' a'' w'' S'' β'' (f1.trans hs) f2 (f3.trans hs) (f4.trans yN) (by rw[← hs];exact f5) f6
   ·rename_i hd
    rw[hd]
    exact dQ hR hl h (fun o ho=>hin o (by simp[ho])) hk hQ
  unfold jH at hk
  simp only at hk
  split at hk
  ·rename_i hg
   exact hgo hl h hk (by simp[AP,hg])
  ·rename_i j want hg
   split at hk
   ·cases hk
   ·rename_i g hgd
    split at hk
    ·rename_i t hv
     have hy:=AG3 h hgd hv
     cases t with
     | true=>
      simp only[Cc] at hk
      rw[aZ hv] at hk
      split at hk
      ·rename_i hw;exact hgo hl h hk (by simp[AP,hg,hy,hw])
      ·rename_i hw;exact hskip hl h hk (by simp[AP,hg,hy];simpa using hw)
     | false=>
      simp only[BU] at hk
      rw[aZ hv] at hk
      split at hk
      ·rename_i hw;exact hskip hl h hk (by simp[AP,hg,hy,hw])
      ·rename_i hw;exact hgo hl h hk (by simp[AP,hg,hy];simpa using hw)
    ·rename_i hv
     have hy:=AX5 h hgd hv
     exact hskip hl h hk (by simp[AP,hg,hy])
    ·cases hk
end
end Go.Rf

end
section
namespace Go.Rf
set_option linter.unusedSectionVars false
variable [T:Laid]
section
variable {P:Program} {H:Nat→Option (List Value)} {N:Nat} {V V':Nat→Option Value} {w w':World} {S S':Nat→Prop} {β β':Key→Option Nat} {a:Act} {o:Oper}
theorem AK0 {keep:List Nat} {l:List Slot}:∀ {xs:List Slot} {i:Nat},(AG0 keep l xs i).length=xs.length
 | [],_=>rfl
 | x :: xs,i=>by simp[AG0,AK0]
theorem AY5 {keep:List Nat} {l:List Slot}:∀ {xs:List Slot} {i j:Nat},j < xs.length→(AG0 keep l xs i)[j]?=some (if keep.any (AR (i+j) ·) then AQ1 l (at? xs j).sv else .dead)
 | [],_,_,h=>by simp at h
 | x :: xs,i,0,_=>by simp[AG0,at?]
 | x :: xs,i,j+1,h=>by
  simp only[AG0,AB]
  rw[AY5 (by simpa using h)]
  rw[show i+1+j=i+(j+1) by omega]
  simp[at?,A9]
theorem lU {σ:List SV} {i:Nat}:at? (lH σ) i=(match σ[i]? with|some v=>⟨v,0,0,0⟩| none=>Slot.dead):=by
 unfold at? lH
 rw[A9,AD]
 cases σ[i]?<;>rfl
theorem A5e {keep:List Nat} {l:List Slot} (h:Rel H N (at? l) V w S β) (hl:l.length=N):Rel H N (at? (lH (AG0 keep l l 0))) V w S β:=by
 have back:∀ {r:Nat} {dr:Dat},(at? (lH (AG0 keep l l 0)) r).sv=.dat dr→(at? l r).sv=.dat dr:=by
  intro r dr hr
  rw[lU] at hr
  by_cases hrl:r < l.length
  ·rw[AY5 hrl] at hr
   simp only at hr
   split at hr
   ·revert hr
    cases hv:(at? l r).sv<;>simp only[AQ1]<;>intro hr
    ·cases hr
    ·exact hr
    ·cases hr
    ·split at hr<;>cases hr
    ·split at hr<;>cases hr
    ·cases hr
    ·split at hr<;>cases hr
    ·cases hr
    ·cases hr
    ·cases hr
   ·cases hr
  ·have:(AG0 keep l l 0)[r]?=none:=AL (by rw[AK0];omega)
   rw[this] at hr;cases hr
 refine⟨h.sane,fun i=>?_⟩
 rw[lU]
 by_cases hil:i < l.length
 ·rw[AY5 hil]
  simp only[A2]
  split
  ·have hs:=h.slots i
   cases hv:(at? l i).sv with
   | dead=>trivial
   | nils=>rw[hv] at hs;exact hs.elim
   | und=>trivial
   | unk=>rw[hv] at hs;exact hs
   | dat d=>rw[hv] at hs;exact hs
   | tup d=>rw[hv] at hs;exact hs
   | pend _ _ _ _ _ _=>trivial
   | adr r p c s=>
    rw[hv] at hs
    obtain⟨k0,_,_,k3⟩:=hs
    simp only[AQ1]
    split
    ·rename_i hok
     exact⟨k0,B2 _,B2 _,fun _ dr hdr=>k3 hok dr (back hdr)⟩
    ·trivial
   | als r p c s=>
    rw[hv] at hs
    obtain⟨k0,_,_,k3⟩:=hs
    simp only[AQ1]
    split
    ·rename_i hok
     exact⟨k0,B2 _,B2 _,fun _ dr hdr=>k3 hok dr (back hdr)⟩
    ·trivial
   | clo f rs=>
    rw[hv] at hs
    obtain⟨k1,k2⟩:=hs
    simp only[AQ1]
    split
    ·rename_i hok
     refine⟨fun x hx=>?_,fun _ vs hvs=>k2 (fun x hx=>?_) vs ?_⟩
     ·obtain⟨y,hy,rfl⟩:=AN.1 hx
      exact⟨(k1 y hy).1,B2 _⟩
     ·have:=AI.1 hok x hx
      simpa[A3] using this
     ·rw[← hvs,B8];rfl
    ·trivial
  ·trivial
 ·have:(AG0 keep l l 0)[i]?=none:=AL (by rw[AK0];omega)
  rw[this];trivial
structure RelS (H:Nat→Option (List Value)) (σ:List SV) (a:Act) (w:World) (S:Nat→Prop) (β:Key→Option Nat):Prop where
 len:σ.length=a.tmps.size
 rel:Rel H a.tmps.size (at? (lH σ)) (qD a) w S β
end
end Go.Rf

end
section
namespace Go.Rf
set_option linter.unusedSectionVars false
variable [T:Laid]
section
variable {P:Program} {H:Nat→Option (List Value)} {w w':World} {S S':Nat→Prop} {β β':Key→Option Nat} {a:Act} {o:Oper}
variable {E:Env} {ρ:Type}
def At2:Ex→Exit
 | .nm=>.normal
 | .ex id=>.exit id
 | .ret=>.ret
def BP7 (H:Nat→Option (List Value)) (κ:Out→Option ρ) (r:ρ) (a:Act) (w:World) (S:Nat→Prop) (β:Key→Option Nat) (Q:Exit→Act→World→Prop):Prop:=
 ∀ (o:Out) (a':Act) (w':World) (S':Nat→Prop) (β':Key→Option Nat),κ o=some r→a'.tmps.size=a.tmps.size→a'.defers=a.defers→RelS H o.σ a' w' S' β'→Step w S β w' S' β'→Q (At2 o.e) a' w'
def A0B (E:Env) (R:Run E):Prop:=∀ {ρ:Type} (H:Nat→Option (List Value)) (mv:List Nat) (ops:List Oper) (id:Nat) (l:List Slot) (a:Act) (w:World) (S:Nat→Prop) (β:Key→Option Nat) (κ:List Slot→Option ρ) (r:ρ) (Q:Exit→Act→World→Prop),
 l.length=a.tmps.size→Rel H a.tmps.size (at? l) (qD a) w S β→(∀ o ∈ ops,opIn a.tmps.size o=true)→jH E R mv ops true ops 0 l [] κ=some r →
 (∀ l' a' w' S' β',l'.length=a.tmps.size→κ l'=some r→a'.tmps.size=a.tmps.size→a'.defers=a.defers→Rel H a.tmps.size (at? l') (qD a') w' S' β'→Step w S β w' S' β'→Q .normal a' w') →
 (Code.region id ops.toArray true).wp E.P Q a w
def A02 (E:Env) (L:nW):Prop:=∀ (H:Nat→Option (List Value)) (f:FuncId) (b:Code) (σ:List SV) (o:Out) (a:Act) (w:World) (S:Nat→Prop) (β:Key→Option Nat) (Q:Exit→Act→World→Prop),
 iV a.tmps.size b=true→L f b σ=some o→RelS H σ a w S β →
 (∀ a' w' S' β',a'.tmps.size=a.tmps.size→a'.defers=a.defers→RelS H o.σ a' w' S' β'→Step w S β w' S' β'→Q (At2 o.e) a' w')→(Code.loop b).wp E.P Q a w
theorem RelS.fewer {σ σ':List SV} (hl:σ'.length=σ.length) (hf:∀ j:Nat,σ'[j]?=σ[j]?∨σ'[j]?=some SV.dead) (h:RelS H σ a w S β):RelS H σ' a w S β:=by
 refine⟨by rw[hl];exact h.len,?_⟩
 refine⟨h.rel.sane,fun i=>?_⟩
 have hs:=h.rel.slots i
 have hat:∀ j,at? (lH σ') j=at? (lH σ) j∨(at? (lH σ') j)=⟨.dead,0,0,0⟩:=fun j=>by
  rw[lU,lU]
  rcases hf j with e|e
  ·left;rw[e]
  ·right;rw[e]
 have stamps:∀ j,(at? (lH σ) j).c=0∧(at? (lH σ) j).s=0∧(at? (lH σ) j).u=0:=fun j=>by
  rw[lU];cases σ[j]?<;>exact⟨rfl,rfl,rfl⟩
 have stamps':∀ j,(at? (lH σ') j).c=0∧(at? (lH σ') j).s=0∧(at? (lH σ') j).u=0:=fun j=>by
  rw[lU];cases σ'[j]?<;>exact⟨rfl,rfl,rfl⟩
 have back:∀ {j dr},(at? (lH σ') j).sv=.dat dr→at? (lH σ') j=at? (lH σ) j:=fun {j dr} hd=>by
  rcases hat j with h|h
  ·exact h
  ·rw[h] at hd;cases hd
 rcases hat i with he|he
 ·rw[he]
  cases hv:(at? (lH σ) i).sv with
  | dead=>trivial
  | nils=>rw[hv] at hs;exact hs.elim
  | und=>rw[hv] at hs;exact hs
  | unk=>rw[hv] at hs;exact hs
  | dat d=>rw[hv] at hs;exact hs
  | tup d=>rw[hv] at hs;exact hs
  | adr r p c s=>
   rw[hv] at hs
   obtain⟨k0,k1,k2,k3⟩:=hs
   rw[(stamps r).1] at k1
   rw[(stamps r).2.1] at k2
   exact⟨k0,by omega,by omega,fun ok dr hdr=>by
    have e:=back hdr
    rw[Sub.okB e] at ok
    rw[e] at hdr
    exact k3 ok dr hdr⟩
  | als r p c s=>
   rw[hv] at hs
   obtain⟨k0,k1,k2,k3⟩:=hs
   rw[(stamps r).1] at k1
   rw[(stamps r).2.1] at k2
   exact⟨k0,by omega,by omega,fun ok dr hdr=>by
    have e:=back hdr
    rw[Sub.okA e] at ok
    rw[e] at hdr
    exact k3 ok dr hdr⟩
  | pend r p c s u d=>
   rw[hv] at hs
   obtain⟨k0,k1,k2,k3,k4⟩:=hs
   rw[(stamps r).1] at k1
   rw[(stamps r).2.1] at k2
   rw[(stamps r).2.2] at k3
   exact⟨k0,by omega,by omega,by omega,fun ok dr hdr=>by
    have e:=back hdr
    rw[Sub.okU e] at ok
    rw[e] at hdr
    exact k4 ok dr hdr⟩
  | clo f rs=>
   rw[hv] at hs
   obtain⟨k1,k2⟩:=hs
   refine⟨fun x hx=>⟨(k1 x hx).1,by have:=(k1 x hx).2;rw[(stamps x.1).2.1] at this;omega⟩,fun hall vs hvs=>k2 (fun x hx=>?_) vs hvs⟩
   have:=hall x hx
   rw[(stamps' x.1).2.1] at this
   rw[(stamps x.1).2.1];exact this
 ·rw[he];trivial
theorem RelS.setdead {σ:List SV} {t:Nat} (h:RelS H σ a w S β):RelS H (σ.set t .dead) a w S β:=h.fewer (by rw[BD]) fun j=>by
 rw[AV]
 by_cases e:t=j
 ·subst e
  by_cases ht:t < σ.length
  ·right;rw[AE rfl,AE ht]
  ·left;rw[AE rfl,As ht,AL (by omega)]
 ·left;rw[As e]
theorem Ak5 {ks rs:List Nat}:∀ {σ:List SV} {i:Nat},(AT3 ks rs σ i).length=σ.length
 | [],_=>rfl
 | _ :: _,_=>by simp only[AT3,B4,Ak5]
theorem Aj7 {ks rs:List Nat}:∀ {σ:List SV} {i:Nat} (j:Nat),(AT3 ks rs σ i)[j]?=σ[j]?∨(AT3 ks rs σ i)[j]?=some SV.dead
 | [],_,_=>.inl rfl
 | v :: vs,i,0=>by
  simp only[AT3,Ao]
  split
  ·right;rfl
  ·left;rfl
 | v :: vs,i,j+1=>by
  simp only[AT3,AB]
  exact Aj7 j
theorem RelS.killS {σ:List SV} {ks:List Nat} (h:RelS H σ a w S β):RelS H (killS ks σ) a w S β:=by
 cases ks with
 | nil=>exact h
 | cons k ks=>exact h.fewer Ak5 fun j=>Aj7 j
theorem RelS.afterC {keep:List Nat} {σ:List SV} {t:Nat} {x:Bool} (hx:σ.getD t .dead=.dat ⟨.bool,x,.sh⟩) (h:RelS H σ a w S β):RelS H (afterC keep t x σ) a w S β:=by
 unfold Rf.afterC
 split
 ·rw[← hx]
  have e:σ.set t (σ.getD t .dead)=σ:=by
   apply AC
   intro i
   rw[AV]
   by_cases hi:t=i
   ·subst hi
    rw[AE rfl]
    by_cases ht:t < σ.length
    ·rw[AE ht,List.getD_eq_getElem?_getD,A1 ht];rfl
    ·rw[As ht,AL (by omega)]
   ·rw[As hi]
  rw[e];exact h
 ·exact h.setdead
theorem pG {R:Run E} {L:nW} {f:FuncId} (hR:AG7 E R) (hD:A0B E R) (hL:A02 E L):∀ {c:Code} {σ:List SV} {κ:Out→Option ρ} {r:ρ} {Q:Exit→Act→World→Prop} {a:Act} {w:World} {S:Nat→Prop} {β:Key→Option Nat},
  iV a.tmps.size c=true→RelS H σ a w S β→evB E R L f c σ κ=some r→BP7 H κ r a w S β Q→c.wp E.P Q a w
 | .skip,σ,κ,r,Q,a,w,S,β,_,h,he,hQ=>wp_skip (hQ ⟨.nm,σ⟩ a w S β he rfl rfl h .refl)
 | .exit id,σ,κ,r,Q,a,w,S,β,_,h,he,hQ=>wp_exit (hQ ⟨.ex id,σ⟩ a w S β he rfl rfl h .refl)
 | .ret,σ,κ,r,Q,a,w,S,β,_,h,he,hQ=>wp_ret (hQ ⟨.ret,σ⟩ a w S β he rfl rfl h .refl)
 | .seq x y,σ,κ,r,Q,a,w,S,β,hd,h,he,hQ=>by
  simp only[iV,Ad] at hd
  simp only[evB] at he
  refine wp_seq (pG hR hD hL hd.1 h he fun o a' w' S' β' ho e1 e2 h' hst=>?_)
  obtain⟨e,σ'⟩:=o
  cases e with
  | nm=>
   simp only[BF2] at ho
   exact pG hR hD hL (by rw[e1];exact hd.2) h' ho fun o a'' w'' S'' β'' ho' f1 f2 h'' hst'=>hQ o a'' w'' S'' β'' ho' (f1.trans e1) (f2.trans e2) h'' (hst.trans hst')
  | ex id=>exact hQ ⟨.ex id,σ'⟩ a' w' S' β' ho e1 e2 h' hst
  | ret=>exact hQ ⟨.ret,σ'⟩ a' w' S' β' ho e1 e2 h' hst
 | .block id b,σ,κ,r,Q,a,w,S,β,hd,h,he,hQ=>by
  simp only[iV] at hd
  simp only[evB] at he
  refine wp_block (pG hR hD hL hd h he fun o a' w' S' β' ho e1 e2 h' hst=>?_)
  obtain⟨e,σ'⟩:=o
  cases e with
  | nm=>exact hQ ⟨.nm,σ'⟩ a' w' S' β' ho e1 e2 h' hst
  | ex j=>
   simp only[AL5] at ho
   split at ho
   ·rename_i hj
    have hj:j=id:=by simpa[A3] using hj
    subst hj
    have:=hQ ⟨.nm,σ'⟩ a' w' S' β' ho e1 e2 h' hst
    simpa[Exit.inBlock,At2] using this
   ·rename_i hj
    have hj:¬ j=id:=by simpa[A3] using hj
    have:=hQ ⟨.ex j,σ'⟩ a' w' S' β' ho e1 e2 h' hst
    simp only[Exit.inBlock,At2]
    rw[As hj];exact this
  | ret=>exact hQ ⟨.ret,σ'⟩ a' w' S' β' ho e1 e2 h' hst
 | .cond c x y,σ,κ,r,Q,a,w,S,β,hd,h,he,hQ=>by
  simp only[iV,Ad] at hd
  simp only[evB] at he
  split at he
  ·rename_i t
   split at he
   ·rename_i b hb
    have hv:(at? (lH σ) t).sv=.dat ⟨.bool,b,.sh⟩:=by
     rw[lU]
     rw[A9] at hb
     cases hσ:σ[t]? with
     | none=>rw[hσ] at hb;cases hb
     | some v=>rw[hσ] at hb;exact hb
    have hc:=zH (AO5 (x:=.tmp t) h.rel (show sv (at? (lH σ)) (.tmp t)=_ from hv) kA)
    cases b with
    | true=>
     simp only[Cc] at he
     exact wp_cond_true hc (pG hR hD hL hd.1 (h.afterC hb) he hQ)
    | false=>
     simp only[BU] at he
     exact wp_cond_false hc (pG hR hD hL hd.2 (h.afterC hb) he hQ)
   ·rename_i hb
    split at he
    ·obtain⟨he1,he2⟩:=AQ4 he
     have hv:(at? (lH σ) t).sv=.unk:=by
      rw[lU]
      rw[A9] at hb
      cases hσ:σ[t]? with
      | none=>rw[hσ] at hb;cases hb
      | some v=>rw[hσ] at hb;exact hb
     have hs:=h.rel.slots t
     rw[hv] at hs
     obtain⟨b,hs⟩:=hs
     have hc:a.eval (.tmp t)=.bool b:=zH hs
     cases b with
     | true=>exact wp_cond_true hc (pG hR hD hL hd.1 h.setdead he1 hQ)
     | false=>exact wp_cond_false hc (pG hR hD hL hd.2 h.setdead he2 hQ)
    ·cases he
   ·cases he
  ·rename_i b
   cases b with
   | true=>exact wp_cond_true rfl (pG hR hD hL hd.1 h he hQ)
   | false=>exact wp_cond_false rfl (pG hR hD hL hd.2 h he hQ)
  ·cases he
 | .loop b,σ,κ,r,Q,a,w,S,β,hd,h,he,hQ=>by
  simp only[iV] at hd
  simp only[evB,Al9] at he
  obtain⟨o,h1,h2⟩:=Aq.1 he
  exact hL H f b _ o a w S β Q hd h1 h.killS fun a' w' S' β' e1 e2 h' hst=>hQ o a' w' S' β' h2 e1 e2 h' hst
 | .region id ops draw,σ,κ,r,Q,a,w,S,β,hd,h,he,hQ=>by
  simp only[iV] at hd
  simp only[evB,AY9] at he
  have hin:∀ o ∈ ops.toList,opIn a.tmps.size o=true:=fun o ho=>AI.1 hd o ho
  have hl:(lH σ).length=a.tmps.size:=by simp[lH,h.len]
  have fin:∀ l' a' w' S' β',l'.length=a.tmps.size→κ ⟨.nm,AG0 (E.cfg f).keep l' l' 0⟩=some r→a'.tmps.size=a.tmps.size→a'.defers=a.defers→Rel H a.tmps.size (at? l') (qD a') w' S' β'→Step w S β w' S' β'→Q .normal a' w':=
   fun l' a' w' S' β' e0 hk e1 e2 h' hst=>hQ ⟨.nm,AG0 (E.cfg f).keep l' l' 0⟩ a' w' S' β' hk e1 e2 ⟨by rw[AK0,e0,e1],by rw[e1];exact A5e h' e0⟩ hst
  cases draw with
  | false=>exact wp_region_list (by
    have:=dQ hR (all:=ops.toList) hl h.rel hin he fin
    simpa using this)
  | true=>
   have:=hD H (BQ7 (E.cfg f) id) ops.toList id (lH σ) a w S β _ r Q hl h.rel hin he fin
   simpa using this
end
end Go.Rf

end
section
namespace Go.Rf
set_option linter.unusedSectionVars false
variable [T:Laid]
def AS9 (P:Program) (c:Code) (Q:Exit→Act→World→Prop) (a:Act) (w:World):Prop:=
 ∀ (b:Frame) (k:List Item) (cs:List Frame),∃ e a' w',Q e a' w'∧Arrives P (lone (b.at a (.code c :: .inLoop c :: k)) cs w) b k cs e a' w'
theorem AS9.wp {P:Program} {c:Code} {Q:Exit→Act→World→Prop} {a:Act} {w:World} (h:AS9 P c Q a w):(Code.loop c).wp P Q a w:=by
 intro b k cs
 obtain⟨e,a',w',hq,harr⟩:=h b k cs
 exact⟨e,a',w',hq,.of_steps (.one step_loop) harr⟩
theorem AS9.round {P:Program} {c:Code} {Q:Exit→Act→World→Prop} {a:Act} {w:World} (h:c.wp P (Exit.then (AS9 P c Q) Q) a w):AS9 P c Q a w:=by
 intro b k cs
 obtain⟨e,a₁,w₁,hq,harr⟩:=h b (.inLoop c :: k) cs
 cases e with
 | normal=>
  obtain⟨e₂,a₂,w₂,hq₂,harr₂⟩:=(hq:AS9 P c Q a₁ w₁) b k cs
  exact⟨e₂,a₂,w₂,hq₂,.of_steps (Steps.trans harr (.one step_inLoop)) harr₂⟩
 | exit id=>exact⟨_,a₁,w₁,hq,.pass (x:=.inLoop c) rfl (fun _ _=>.inl (by simp)) harr⟩
 | goto l=>exact⟨_,a₁,w₁,hq,.pass (x:=.inLoop c) rfl (fun _ _=>.inl (by simp)) harr⟩
 | ret=>exact⟨_,a₁,w₁,hq,.pass (x:=.inLoop c) rfl (fun _ _=>.inl (by simp)) harr⟩
 | panic ch=>exact⟨_,a₁,w₁,hq,.pass (x:=.inLoop c) rfl (fun _ _=>.inl (by simp)) harr⟩
 | outgrown=>exact⟨_,a₁,w₁,hq,.pass (x:=.inLoop c) rfl (fun _ _=>.inl (by simp)) harr⟩
section
variable {E:Env} {X:(f:FuncId)→Option (List Dyn→Option (E.cfg f).rt.D)}
def AY1 (E:Env) (L:nW):Prop:=∀ (H:Nat→Option (List Value)) (f:FuncId) (b:Code) (σ:List SV) (o:Out) (a:Act) (w:World) (S:Nat→Prop) (β:Key→Option Nat) (Q:Exit→Act→World→Prop),
 iV a.tmps.size b=true→L f b σ=some o→RelS H σ a w S β →
 (∀ a' w' S' β',a'.tmps.size=a.tmps.size→a'.defers=a.defers→RelS H o.σ a' w' S' β'→Step w S β w' S' β'→Q (At2 o.e) a' w')→AS9 E.P b Q a w
theorem AY1.ok {L:nW} (h:AY1 E L):A02 E L:=fun H f b σ o a w S β Q hd hl hr hQ=>(h H f b σ o a w S β Q hd hl hr hQ).wp
end
end Go.Rf

end
section
namespace Go.Rf
set_option linter.unusedSectionVars false
variable [T:Laid]
section
variable {E:Env} {R:Run E} {ρ:Type}
def A6J (all:List Oper) (o:Oper) (l:List Slot) (gs:List Nat):Prop:=
 (o.guard=none∧gs=[])∨∃ j want g,o.guard=some (j,want)∧(all[j]?).bind BJ=some g∧gs=[g]∧(at? l g).sv=.dat ⟨.bool,want,.sh⟩
def A5s (E : Env) (R : Run E) (mv : List Nat) (all : List Oper) (i : Nat) (o : Oper) (l : List Slot) (us : List Up) (rc : Rec) : Prop :=
  rc.wr = us.map Up.slot ∧ (∀ x, x ∈ bQ l us → x ∈ rc.bad) ∧ (∀ x, x ∈ rc.tw → x ∈ us.map Up.slot) ∧ (∀ x, x ∈ us.map Up.slot → x ∈ rc.tw ∨ BA3 o x = true) ∧
  ((opK E R (mv.any (AR i ·)) (tX l (Ad7 o l)) o some = some us ∧ ∃ gs, A6J all o l gs ∧ (rc.fp = gs ++ Ad7 o l ∨
      (rc.fp = gs ∧ ∃ x s, o.op = .move x ∧ AH1 (at? l) (mv.any (AR i ·)) x = some s ∧ rc.sf = [s]) ∨
      (rc.fp = gs ∧ ∃ s, AI5 l o = [s] ∧ rc.ts = [s]))) ∨
   (∃ j want g, o.guard = some (j, want) ∧ (all[j]?).bind BJ = some g ∧ rc.fp = [g] ∧ ((at? l g).sv = .und ∨ (at? l g).sv = .dat ⟨.bool, !want, .sh⟩) ∧
      us = (match o.dst with | some d => [.put d .und] | none => [])))
theorem A4h {E:Env} {R:Run E} {mv:List Nat} {all:List Oper} {i:Nat} {o:Oper} {l:List Slot} {us:List Up} {gs:List Nat} (h:opK E R (mv.any (AR i ·)) (tX l (Ad7 o l)) o some=some us) (hg:A6J all o l gs):
  A5s E R mv all i o l us (AJ9 (mv.any (AR i ·)) gs l o us):=by
 have key:A2q (mv.any (AR i ·)) l o=[]∨∃ x s,o.op=.move x∧AH1 (at? l) (mv.any (AR i ·)) x=some s∧A2q (mv.any (AR i ·)) l o=[s]:=by
  unfold A2q
  split
  ·rename_i x hx
   cases e:AH1 (at? l) (mv.any (AR i ·)) x with
   | some s=>exact .inr ⟨x,s,hx,e,rfl⟩
   | none=>exact .inl rfl
  ·exact .inl rfl
 have h1:∀ x,x ∈ BN2 o us→x ∈ us.map Up.slot:=fun x hx=>(BE.1 hx).1
 have h2:∀ x,x ∈ us.map Up.slot→x ∈ BN2 o us∨BA3 o x=true:=fun x hx=>by
  cases e:BA3 o x with
  | true=>exact .inr rfl
  | false=>exact .inl (BE.2 ⟨hx,by rw[e];rfl⟩)
 have h3:AI5 l o=[]∨∃ s,AI5 l o=[s]:=by
  unfold AI5
  (repeat' split)<;>first|exact .inl rfl|exact .inr ⟨_,rfl⟩
 unfold AJ9
 rcases key with e|⟨x,s,h4,h5,e⟩
 ·rw[e]
  simp only
  rcases h3 with e3|⟨s,e3⟩
  ·rw[e3];exact⟨rfl,fun _ h=>h,h1,h2,.inl ⟨h,gs,hg,.inl rfl⟩⟩
  ·rw[e3];exact⟨rfl,fun _ h=>h,h1,h2,.inl ⟨h,gs,hg,.inr (.inr ⟨rfl,s,e3,rfl⟩)⟩⟩
 ·rw[e];exact⟨rfl,fun _ h=>h,h1,h2,.inl ⟨h,gs,hg,.inr (.inl ⟨rfl,x,s,h4,h5,rfl⟩)⟩⟩
theorem oZ:∀ {us vs:List Up} {l:List Slot},oQ l (us++vs)=oQ (oQ l us) vs
 | [],_,_=>rfl
 | u :: us,vs,l=>by simp only[A5,oQ];exact oZ
def A2d (E:Env) (R:Run E) (mv:List Nat) (all:List Oper) (κ:List Slot→Option ρ) (r:ρ) (os:List Oper) (i:Nat) (l:List Slot) (acc:List Rec):Prop:=
 ∃ (uss:List (List Up)) (rcs:List Rec),uss.length=os.length∧rcs.length=os.length∧κ (oQ l uss.flatten)=some r∧(Au6 (AJ3 all) (acc++rcs) 0=true∧A7w (acc++rcs)=true)∧bX all 0=true ∧
  ∀ (j:Nat) (o:Oper) (us:List Up) (rc:Rec),os[j]?=some o→uss[j]?=some us→rcs[j]?=some rc→A5s E R mv all (i+j) o (oQ l (uss.take j).flatten) us rc
theorem Ah7 {mv:List Nat} {all:List Oper} {κ:List Slot→Option ρ} {r:ρ}:∀ {os:List Oper} {i:Nat} {l:List Slot} {acc:List Rec},jH E R mv all true os i l acc κ=some r→A2d E R mv all κ r os i l acc
 | [],i,l,acc,h=>by
  simp only[jH,Az] at h
  split at h
  ·rename_i hc
   simp only[Ad] at hc
   exact⟨[],[],rfl,rfl,h,⟨by simpa using hc.1.1,by simpa using hc.1.2⟩,hc.2,by simp⟩
  ·cases h
 | o :: os,i,l,acc,h=>by
  have step:∀ {us:List Up} {rc:Rec},A5s E R mv all i o l us rc→jH E R mv all true os (i+1) (oQ l us) (acc++[rc]) κ=some r →
    A2d E R mv all κ r (o :: os) i l acc:=by
   intro us rc hs hk
   obtain⟨uss,rcs,h1,h2,h3,h4,h5,h6⟩:=Ah7 hk
   refine⟨us :: uss,rc :: rcs,by simp[h1],by simp[h2],by simpa[oZ] using h3,by simpa using h4,h5,fun j o' us' rc' e1 e2 e3=>?_⟩
   cases j with
   | zero=>
    simp only[Ao,Aa] at e1 e2 e3
    subst e1;subst e2;subst e3
    simpa[oQ] using hs
   | succ j=>
    have:=h6 j o' us' rc' (by simpa using e1) (by simpa using e2) (by simpa using e3)
    rw[show i+1+j=i+(j+1) by omega] at this
    simpa[oZ] using this
  have hgo:∀ {gs:List Nat},((o.guard=none∧gs=[])∨∃ j want g,o.guard=some (j,want)∧(all[j]?).bind BJ=some g∧gs=[g]∧(at? l g).sv=.dat ⟨.bool,want,.sh⟩) →
    opK E R (mv.any (AR i ·)) (tX l (Ad7 o l)) o (fun us=>jH E R mv all true os (i+1) (oQ l us) (acc++[AJ9 (mv.any (AR i ·)) gs l o us]) κ)=some r→A2d E R mv all κ r (o :: os) i l acc:=by
   intro gs hg hk
   rw[dX] at hk
   obtain⟨us,e1,e2⟩:=Aq.1 hk
   exact step (us:=us) (rc:=AJ9 (mv.any (AR i ·)) gs l o us) (A4h e1 hg) e2
  have hskip:∀ {j:Nat} {want:Bool} {g:Nat},o.guard=some (j,want)→(all[j]?).bind BJ=some g→((at? l g).sv=.und∨(at? l g).sv=.dat ⟨.bool,!want,.sh⟩) →
    (match o.dst with
     | some d=>jH E R mv all true os (i+1) (upL l (.put d .und)) (acc++[⟨[g],[d],[],[d],[],[d]⟩]) κ
     | none=>jH E R mv all true os (i+1) l (acc++[⟨[g],[],[],[],[],[]⟩]) κ)=some r→A2d E R mv all κ r (o :: os) i l acc:=by
   intro j want g h1 h2 h3 hk
   have bad1:∀ {d:Nat},∀ x,x ∈ bQ l [.put d .und]→x ∈ [d]:=fun {d} x hx=>(BE.1 hx).1
   cases hd:o.dst with
   | some d=>
    rw[hd] at hk
    exact step (us:=[.put d .und]) (rc:=⟨[g],[d],[],[d],[],[d]⟩) ⟨rfl,bad1,fun _ h=>h,fun _ h=>.inl h,.inr ⟨j,want,g,h1,h2,rfl,h3,by rw[hd]⟩⟩ hk
   | none=>
    rw[hd] at hk
    exact step (us:=[]) (rc:=⟨[g],[],[],[],[],[]⟩) ⟨rfl,fun _ h=>h,fun _ h=>h,fun _ h=>.inl h,.inr ⟨j,want,g,h1,h2,rfl,h3,by rw[hd]⟩⟩ hk
  unfold jH at h
  simp only at h
  split at h
  ·rename_i hg
   exact hgo (gs:=[]) (.inl ⟨hg,rfl⟩) h
  ·rename_i j want hg
   split at h
   ·cases h
   ·rename_i g hgd
    split at h
    ·rename_i t hv
     cases t with
     | true=>
      simp only[Cc] at h
      rw[aZ hv] at h
      cases want with
      | true=>exact hgo (gs:=[g]) (.inr ⟨j,true,g,hg,hgd,rfl,hv⟩) h
      | false=>exact hskip hg hgd (.inr hv) h
     | false=>
      simp only[BU] at h
      rw[aZ hv] at h
      cases want with
      | true=>exact hskip hg hgd (.inr hv) h
      | false=>exact hgo (gs:=[g]) (.inr ⟨j,false,g,hg,hgd,rfl,hv⟩) h
    ·rename_i hv
     exact hskip hg hgd (.inl hv) h
    ·cases h
end
end Go.Rf

end
section
namespace Go.Rf
set_option linter.unusedSectionVars false
variable [T:Laid]
def oX (x:Nat) (s:Slot):List Up→Slot
 | []=>s
 | u :: us=>oX x (if x=u.slot then u.on s else s) us
theorem nF {x:Nat}:∀ {us vs:List Up} {s:Slot},oX x s (us++vs)=oX x (oX x s us) vs
 | [],_,_=>rfl
 | u :: us,vs,s=>by simp only[A5,oX];exact nF
theorem lB {x:Nat}:∀ {us:List Up} {s:Slot},(∀ u ∈ us,u.slot≠x)→oX x s us=s
 | [],_,_=>rfl
 | u :: us,s,h=>by
  simp only[oX]
  rw[As (fun e=>h u (by simp) e.symm)]
  exact lB fun v hv=>h v (by simp[hv])
theorem nN {x:Nat}:∀ {us:List Up} {l:List Slot},x < l.length→at? (oQ l us) x=oX x (at? l x) us
 | [],_,_=>rfl
 | u :: us,l,h=>by
  simp only[oQ,oX]
  rw[nN (by rw[AO9];exact h),A7T h]
  by_cases e:x=u.slot
  ·subst e;rw[pF,AE rfl]
  ·rw[sQ e,As e]
def sel (L:Nat→Bool):List (List Up)→Nat→List Up
 | [],_=>[]
 | us :: r,k=>(if L k then us else [])++sel L r (k+1)
theorem AI9 {x:Nat} {L M:Nat→Bool}:∀ {uss:List (List Up)} {k:Nat} {s:Slot},(∀ j us,uss[j]?=some us→(∃ u ∈ us,u.slot=x)→L (k+j)=M (k+j))→oX x s (sel L uss k)=oX x s (sel M uss k)
 | [],_,_,_=>rfl
 | us :: r,k,s,h=>by
  simp only[sel]
  rw[nF,nF]
  have h0:oX x s (if L k then us else [])=oX x s (if M k then us else []):=by
   by_cases hx:∃ u ∈ us,u.slot=x
   ·have:=h 0 us rfl hx
    rw[Ay] at this
    rw[this]
   ·have hn:∀ u ∈ us,u.slot≠x:=fun u hu e=>hx ⟨u,hu,e⟩
    split<;>split<;>first|rfl|(rw[lB hn];rfl)
  rw[h0]
  exact AI9 fun j us' hj hx=>by
   have:=h (j+1) us' (by simpa using hj) hx
   rw[show k+(j+1)=k+1+j by omega] at this
   exact this
theorem As5 {i:Nat}:∀ {uss:List (List Up)} {k:Nat},sel (fun j=>decide (j < k+i)) uss k=(uss.take i).flatten:=by
 induction i with
 | zero=>
  intro uss
  have:∀ (uss:List (List Up)) (k m:Nat),m≤k→sel (fun j=>decide (j < m)) uss k=[]:=by
   intro uss
   induction uss with
   | nil=>intro k m _;rfl
   | cons us r ih=>intro k m h;simp only[sel];rw[As (by simp;omega),ih (k+1) m (by omega)];rfl
  intro k;simpa using this uss k k (Al _)
 | succ i ih=>
  intro uss k
  cases uss with
  | nil=>rfl
  | cons us r=>
   simp only[sel,List.take_succ_cons,List.flatten_cons]
   rw[AE (by simp)]
   have:=ih (uss:=r) (k:=k+1)
   rw[show k+1+i=k+(i+1) by omega] at this
   rw[this]
end Go.Rf

end
section
namespace Go.Rf
set_option linter.unusedSectionVars false
variable [T:Laid]
theorem eG {a b:List Nat}:Ay4 a b=true↔∃ x,x ∈ a∧x ∈ b:=by
 simp only[Ay4,List.any_eq_true,A3]
 constructor
 ·rintro⟨x,hx,y,hy,e⟩;exact⟨x,hx,e▸hy⟩
 ·rintro⟨x,hx,hy⟩;exact⟨x,hx,x,hy,rfl⟩
def BO3 (r q:Rec):Prop:=(∀ x,x ∈ r.wr→x ∉ q.fp)∧(∀ x,x ∈ r.wr→x ∉ q.wr)∧(∀ x,x ∈ q.wr→x ∉ r.fp)∧(∀ x,x ∈ r.tw→x ∉ q.ts)∧∀ x,x ∈ q.tw→x ∉ r.ts
theorem A2x {b:List Nat} {r:Rec} {i:Nat}:∀ {qs:List Rec} {j:Nat},Au6.go b r i qs j=true→∀ k q,qs[k]?=some q→Bf (b.getD (j+k) 0) i=true∨BO3 r q
 | [],_,_,_,_,h=>by simp at h
 | q :: qs,j,h,k,q',hk=>by
  simp only[Au6.go,Ad] at h
  cases k with
  | zero=>
   simp only[Ao,Aa] at hk;subst hk
   have h1:=h.1
   simp only[Ba,Ad,A8] at h1
   rcases h1 with h1|⟨⟨⟨⟨h1,h2⟩,h3⟩,h4⟩,h5⟩
   ·exact .inl h1
   ·refine .inr ⟨fun x hx hy=>?_,fun x hx hy=>?_,fun x hx hy=>?_,fun x hx hy=>?_,fun x hx hy=>?_⟩
    ·rw[eG.2 ⟨x,hx,hy⟩] at h1;cases h1
    ·rw[eG.2 ⟨x,hx,hy⟩] at h2;cases h2
    ·rw[eG.2 ⟨x,hx,hy⟩] at h3;cases h3
    ·rw[eG.2 ⟨x,hx,hy⟩] at h4;cases h4
    ·rw[eG.2 ⟨x,hx,hy⟩] at h5;cases h5
  | succ k=>
   have:=A2x h.2 k q' (by simpa using hk)
   rw[show j+1+k=j+(k+1) by omega] at this
   exact this
theorem Ah3 {b:List Nat}:∀ {rs:List Rec} {m:Nat},Au6 b rs m=true→∀ i j r q,i < j→rs[i]?=some r→rs[j]?=some q→Bf (b.getD (m+j) 0) (m+i)=true∨BO3 r q
 | [],_,_,_,_,_,_,_,h,_=>by simp at h
 | r0 :: rs,m,h,i,j,r,q,hij,hi,hj=>by
  simp only[Au6,Ad] at h
  cases j with
  | zero=>omega
  | succ j=>
   cases i with
   | zero=>
    simp only[Ao,Aa] at hi;subst hi
    have:=A2x h.1 j q (by simpa using hj)
    rw[show m+1+j=m+(j+1) by omega] at this
    simpa using this
   | succ i=>
    have:=Ah3 h.2 i j r q (by omega) (by simpa using hi) (by simpa using hj)
    rw[show m+1+j=m+(j+1) by omega,show m+1+i=m+(i+1) by omega] at this
    exact this
end Go.Rf

end
section
namespace Go.Rf
set_option linter.unusedSectionVars false
variable [T:Laid]
def AG1 (acc:Array Nat) (o:Oper):Array Nat:=acc.push (o.after.foldl (fun s e=>if AZ .any e then s ||| 2 ^ e.on ||| acc.getD e.on 0 else s) 0)
theorem AP4:∀ {os:List Oper} {acc:Array Nat} {k:Nat},k < acc.size→(os.foldl AG1 acc).getD k 0=acc.getD k 0
 | [],_,_,_=>rfl
 | o :: os,acc,k,h=>by
  simp only[AU]
  rw[AP4 (by simp[AG1];omega)]
  simp[AG1,AF,Br,Nat.ne_of_lt h]
theorem Aw4:∀ {os:List Oper} {acc:Array Nat} {i:Nat} {o:Oper},os[i]?=some o→∃ pre:Array Nat,pre.size=acc.size+i∧(∀ k,k < pre.size→pre.getD k 0=(os.foldl AG1 acc).getD k 0) ∧
  (os.foldl AG1 acc).getD (acc.size+i) 0=o.after.foldl (fun s e=>if AZ .any e then s ||| 2 ^ e.on ||| pre.getD e.on 0 else s) 0
 | [],_,_,_,h=>by simp at h
 | o' :: os,acc,i,o,h=>by
  cases i with
  | zero=>
   simp only[Ao,Aa] at h;subst h
   refine⟨acc,rfl,fun k hk=>?_,?_⟩
   ·simp only[AU]
    rw[AP4 (by simp[AG1];omega)]
    simp[AG1,AF,Br,Nat.ne_of_lt hk]
   ·simp only[AU,Ay]
    rw[AP4 (by simp[AG1])]
    simp[AG1,AF]
  | succ i=>
   obtain⟨pre,h1,h2,h3⟩:=Aw4 (acc:=AG1 acc o') (i:=i) (by simpa using h)
   have hs:(AG1 acc o').size=acc.size+1:=by simp[AG1]
   refine⟨pre,by rw[h1,hs];omega,h2,?_⟩
   simp only[AU]
   rw[show acc.size+(i+1)=(AG1 acc o').size+i by rw[hs];omega]
   exact h3
theorem At3 {f:Edge→Nat} {m:Nat}:∀ {es:List Edge} {s:Nat},Bf (es.foldl (fun s e=>if AZ .any e then s ||| 2 ^ e.on ||| f e else s) s) m=true →
  Bf s m=true∨∃ e ∈ es,AZ .any e=true∧(e.on=m∨Bf (f e) m=true)
 | [],s,h=>.inl h
 | e :: es,s,h=>by
  simp only[AU] at h
  rcases At3 h with h|⟨e',h1,h2⟩
  ·split at h
   ·rename_i hb
    simp only[Nat.testBit_or,Ba,Nat.testBit_two_pow,Ar] at h
    rcases h with (h|h)| h
    ·exact .inl h
    ·exact .inr ⟨e,by simp,hb,.inl h⟩
    ·exact .inr ⟨e,by simp,hb,.inr h⟩
   ·exact .inl h
  ·exact .inr ⟨e',by simp[h1],h2⟩
theorem Aq0:∀ {os:List Oper} {m i:Nat} {o:Oper} {e:Edge},bX os m=true→os[i]?=some o→e ∈ o.after.toList→AZ .any e=true→e.on < m+i
 | [],_,_,_,_,_,h,_,_=>by simp at h
 | o' :: os,m,i,o,e,h,hi,he,hb=>by
  simp only[bX,Ad] at h
  cases i with
  | zero=>
   simp only[Ao,Aa] at hi;subst hi
   have:=AI.1 h.1 e he
   simpa[B6,hb] using this
  | succ i=>have:=Aq0 h.2 (by simpa using hi) he hb;omega
theorem A3g {ops:List Oper} {i m:Nat} {o:Oper} (he:bX ops 0=true) (hi:ops[i]?=some o) (h:Bf ((AJ3 ops).getD i 0) m=true):
  ∃ e ∈ o.after.toList,AZ .any e=true∧e.on < i∧(e.on=m∨Bf ((AJ3 ops).getD e.on 0) m=true):=by
 have hb:∀ k,(AJ3 ops).getD k 0=(ops.foldl AG1 #[]).getD k 0:=fun k=>by
  unfold AJ3 Region.before
  have:(ops.toArray.foldl (fun acc o=>acc.push (o.after.foldl (fun s e=>if AZ .any e then s ||| 2 ^ e.on ||| acc.getD e.on 0 else s) 0)) #[])=ops.foldl AG1 #[]:=by
   rw[← Bw];rfl
  rw[this]
  simp[A9,AF]
 rw[hb] at h
 obtain⟨pre,h1,h2,h3⟩:=Aw4 (acc:=#[]) hi
 simp only[AW,List.length_nil,A2] at h1 h3
 rw[h3,← Bw] at h
 rcases At3 h with h|⟨e,e1,e2,e3⟩
 ·simp at h
 ·have hlt:=Aq0 he hi e1 e2
  rw[A2] at hlt
  refine⟨e,e1,e2,hlt,e3.imp id fun h=>?_⟩
  rw[hb,← h2 e.on (by omega)];exact h
end Go.Rf

end
