/- An interpreter of the code over plain data, proved right against the machine: part 2. No condition. -/
import Derived.Test.YtcikhcfofnlegaaGreatRhA
import Derived.Laws.AppendOwn
import Derived.Laws.Tables
import Derived.Great.BuildSlice
import Derived.Tactics
import Derived.Orders
open Option.some renaming injEq->Aa,inj->Ap
open Option renaming map_eq_some_iff->Ab,bind_eq_some_iff->Aq,map_some->Bb,bind_assoc->B1,isSome_iff_exists->B3,map_none->Cf
open Nat renaming mul_le_mul_right->Ac,add_mul->Ah,le_refl->Al,one_mul->Av,add_zero->Ay,zero_add->A2,beq_eq->A3,lt_or_gt_of_ne->AQ,beq->AR,lt_of_lt_of_le->Bd,testBit->Bf,zero_le->B2,blt_eq->B6,ble_eq->BP,eq_zero_or_pos->BQ,le_of_eq->BV,sub_self->BW,mul_one->Cd,not_lt->Ci,mul_le_mul->Cj
open Bool renaming and_eq_true->Ad,cond_eq_ite->Aj,not_eq_true'->A8,or_eq_true->Ba,false_or->Ck
open List renaming getElem?_eq_some_iff->Ae,length->Ag,length_eq_zero_iff->Am,getElem?_cons_zero->Ao,pairwise_iff_getElem->Au,mem_of_getElem?->Aw,length_append->Ax,getElem?_eq_getElem->A1,getElem?_append_right->A4,cons_append->A5,getElem?_zip_eq_some->A6,getElem?_append_left->A7,getD->A9,cons_prefix_cons->AA,getElem?_cons_succ->AB,ext_getElem?->AC,getElem?_map->AD,getElem_map->AH,all_eq_true->AI,length_replicate->AJ,getElem?_toArray->AK,getElem?_eq_none->AL,mem_map->AN,mem_cons->AO,length_map->AT,foldl_cons->AU,getElem?_set->AV,size_toArray->AW,nil_append->Bc,getElem?_replicate->Be,isEmpty_iff->Bi,length_drop->Bj,drop_append_of_le_length->Bn,take_append_of_le_length->Bo,mem_zipIdx_iff_getElem?->Bp,dropLast_concat_getLast->Bq,replicate_succ->Bs,replicate->Bu,map->Bv,getElem?_eq_none_iff->By,pairwise_map->B0,length_cons->B4,getElem_zip->B5,map_map->B8,drop_eq_nil_of_le->B9,length_zip->BA,append_nil->BC,length_set->BD,prefix_cons_inj->BE,drop_drop->BF,getElem?_of_mem->BH,drop->BJ,take->BK,map_congr_left->BL,map_cons->BN,getElem?_drop->BO,pairwise_cons->BS,length_take->BY,drop_append->Ca,drop_take->Ch
open Prod.mk renaming injEq->Af
open Go.Builtin renaming firstCells->Ai,append_->At,lenOf->Bl,copy_->Bm,zeroCells->BX
open List.cons renaming injEq->Ak
open _root_ renaming decide_eq_true_eq->Ar,if_neg->As,if_true->Az,if_pos->AE,true_and->AS,congrArg->AX,and_true->Bg,cond_false->BT,cond_true->Cb
open Int renaming toNat->A0
open Array renaming getD_eq_getD_getElem?->AF,toList_inj->AG,toList_map->AY,length_toList->A',getElem?_toList->Bh,getElem?_push->Br,foldl_toList->Bw,getElem?_eq_getElem->Bx,size_append->Bz,range->BG,toList_append->BM,map->Co
open Go.Value.slice renaming injEq->AM
open Go.Region renaming wanted->AP,binds->AZ
open Go.Instr renaming indexAt->Bk,sureAddr->Bt,fill->BR,sliceBounds->BU,sliceBound->BZ,buildSlice->B',slice->Cc,makeSlice->Cg,fieldAt->Cl,sliceAt->Cm
open Ne renaming symm->B7
open Go.Question renaming forced->BB
open Go.Oper renaming dst->BI
open Go.Op renaming operands->Ce
open Go.Addr.mk renaming injEq->Cn
set_option linter.unusedVariables false
set_option linter.unusedSimpArgs false
section
namespace Go.Rf
set_option linter.unusedSectionVars false
variable [T:Laid]
section
variable {P:Program} {H:Nat→Option (List Value)} {N:Nat} {g g' σ:yL} {V V':Nat→Option Value} {w w':World} {S S':Nat→Prop} {β β':Key→Option Nat} {a:Act} {o:Oper}
variable {E:Env} {gv:yL} {us:List Up}
theorem A7h {t:TypeId} {x:Operand} (hc:Ctx E.P H S β a w o g) (hs:Sub gv g) (hm:o.op=.load t x)
  (hk:BM5 gv o (E.ty t) x some=some us):yY E.P H S β a w o (g.ups us):=by
 unfold BM5 at hk
 split at hk
 ·rename_i q hq
  split at hk
  ·rename_i d hat
   split at hk
   ·rename_i hcond
    simp only[Ad,Ar,A8] at hcond
    obtain⟨hty,hgn⟩:=hcond
    have hn:=rN hgn
    obtain⟨hq',hat',hr⟩:=aM hs hq hat
    obtain⟨e,cr,b,oo,he,hg,hb,hV,hl,hw,hx,_⟩:=dW hc.rel hq' hat'
    obtain⟨cr',L,c,k1,k2,k3,k4,k5,k6⟩:=hc.rel.place he hg hb hn
    have:=rH (Ap (k1.symm.trans hV)) k2 hl
    subst this
    rw[hw] at k4
    simp only[Aa,Af,AS] at k4
    subst k4
    have hrun:(execOp a.eval o).run E.P w=.ok (.value (yK d.t c)) w:=by
     simp only[execOp,hm,zP hx,Instr.loadAt,Bt,Sem.run_bind,Sem.run_pure,Result.andThen_ok,At8 hty k5]
    split at hk
    ·rename_i hf
     have hf:=uY hf
     rw[hf,xD] at k6
     exact DV.look ⟨hf,c,k6,rfl⟩ hc.rel hc.dead hc.opIn hk hrun
    ·obtain⟨dd,ho,rfl⟩:=xA hk
     have ea:Am3 gv q=Am3 g q:=by simp[Am3,hr]
     rw[ea]
     exact Ap2 hc.rel hc.dead ho (wP hc.opIn ho) hrun (A6Y (hc.dead.root he) he hg hn hb hV hl hw k5 rfl)
   ·cases hk
  ·cases hk
 ·cases hk
theorem A1X {r:Nat} {p:List PS} {e d:Dat} {cr:List Value} {b oo dd:Nat} (hc:Ctx P H S β a w o g) (he:(g r).sv=.dat e) (hV:vals a r=some (yK e.t cr)) (hl:cr.length=e.t.size)
  (hw:tJ w e.t (.reg cr) p=some (d.t,.mem b oo)) (hb:inB p e.t e.x) (hg:xQ p e.t e.f e.x=some d) (hn:bB p=true∨d.f.base≠.gone) (ho:o.dst=some dd)
  (hr:(execOp a.eval o).run P w=.ok (.value (.pointer (some ⟨b,oo,none⟩))) w):yY P H S β a w o (g.ups [.put dd (BJ2 g (r,p))]):=by
 refine Ap2 hc.rel hc.dead ho (wP hc.opIn ho) hr ?_
 refine A82 (hc.dead.root he) (Al _) (Al _) fun _ dr hdr=>?_
 rw[he] at hdr
 simp only[SV.dat.injEq] at hdr
 subst hdr
 exact⟨cr,_,b,oo,hV,hl,hw,rfl,hb,fun hbx=>⟨d,hg,hn.resolve_left (by rw[hbx];simp)⟩⟩
theorem A2s {ty:TypeId→Option Ty}:∀ {i:Nat} {fs:List Field} {off:Nat} {τ:Ty} {f:Fl} {x:τ.D} {d:Dat} {b o:Nat},jZ ty fs off=some τ→xQ (yM i) τ f x=some d →
  ∃ fl,fs[i]?=some fl∧ty fl.type=some d.t∧off≤fl.offset∧tJ w τ (.mem b o) (yM i)=some (d.t,.mem b (o+(fl.offset - off)))∧inB (yM i) τ x
 | i,[],off,τ,f,x,d,b,o,h,hg=>by
  simp only[jZ,Aa] at h;subst h
  cases i<;>simp[yM,xQ] at hg
 | i,fl :: fs,off,τ,f,x,d,b,o,h,hg=>by
  simp only[jZ] at h
  split at h
  ·rename_i a ha
   split at h
   ·rename_i ho
    simp only[A3] at ho
    simp only[Ab] at h
    obtain⟨τ',h,rfl⟩:=h
    cases i with
    | zero=>
     simp only[yM,xQ,Aa] at hg
     subst hg
     exact⟨fl,rfl,ha,by omega,by simp[yM,tJ,wX,AK0,ho],by simp[yM,inB]⟩
    | succ i=>
     simp only[yM,xQ] at hg
     obtain⟨fl',h1,h2,h3,h4,h5⟩:=A2s (b:=b) (o:=o+a.size) h hg
     refine⟨fl',by simpa using h1,h2,by omega,?_,by simpa[yM,inB] using h5⟩
     simp only[yM,tJ,wX,AK0]
     rw[h4]
     congr 3
     omega
   ·cases h
  ·cases h
theorem A1e:∀ {i:Nat},jumps (yM i)=false
 | 0=>rfl
 | i+1=>by simp only[yM,jumps,PS.jumps,Ck];exact A1e
theorem BB5 {d:Nat} {t:TypeId} {x y:Ty} (h:tyN P (d+1) t=some (.pair x y)):∃ fs,P.underlying t=some (.struct fs)∧jZ (tyN P d) fs.toList 0=some (.pair x y):=by
 obtain⟨i,u,_,h2,_,h4⟩:=kF h
 unfold kJ at h4
 cases u<;>simp only[reduceCtorEq] at h4<;>first
  | exact⟨_,h2,h4⟩
  | (obtain⟨a,_,h⟩:=h4;cases h)
theorem A9C {s:TypeId} {fs:Array Field} {fl:Field} {i b oo d:Nat} {τ:Ty} (hs:P.underlying s=some (.struct fs)) (hf:fs.toList[i]?=some fl) (ht:tyN P (d+1) fl.type=some τ) (hz:τ.size≠0):
  (Cl s (.pointer (some ⟨b,oo,none⟩)) i).run P w=.ok (.pointer (some ⟨b,oo+fl.offset,none⟩)) w:=by
 have hf':fs[i]?=some fl:=by simpa using hf
 simp only[Cl,Sem.run_bind,zE hs,Result.andThen_ok,hf',Bt,Sem.run_pure,fieldPlace,rK ht]
 rw[As hz]
 simp only[Sem.run_pure,Result.andThen_ok,gY]
theorem A0C {t:TypeId} {x:Operand} {i:Nat} (hc:Ctx E.P H S β a w o g) (hs:Sub gv g) (hm:o.op=.fieldAddr t x i)
  (hk:aH gv o (E.ty t) x i some=some us):yY E.P H S β a w o (g.ups us):=by
 unfold aH at hk
 split at hk
 ·rename_i q hq
  split at hk
  ·rename_i hta
   split at hk
   ·rename_i d hat
    split at hk
    ·rename_i hcond
     simp only[Ad,A8,Ba] at hcond
     obtain⟨hgn,hz⟩:=hcond
     obtain⟨dd,ho,rfl⟩:=xA hk
     unfold A5t at hta
     cases hp:atP gv q.1 q.2 with
     | none=>
      rw[hp] at hta
      have hnot:=hs.atP hat
      obtain⟨e,he,hg⟩:=dO hat
      rw[Cf] at hta
      exfalso
      have hpar:∀ (p:List PS) (t:Ty) (f:Fl) (x:t.D) (j:Nat) (d:Dat),xQ (p++yM j) t f x=some d→xQ p t f x≠none:=by
       intro p
       induction p with
       | nil=>intro t f x j d _;simp[xQ]
       | cons s p ih=>
        intro t f x j d h
        cases s<;>cases t<;>simp only[A5,xQ,reduceCtorEq] at h ⊢<;>exact ih _ _ _ _ _ h
      unfold atP at hp
      rw[he] at hp
      exact hpar _ _ _ _ _ _ hg hp
     | some d0=>
      rw[hp] at hta
      simp only[Bb] at hta
      obtain⟨hq',hat',hr⟩:=aM hs hq hp
      obtain⟨e,cr,b,oo,he,hg,hb,hV,hl,hw,hx,hsol⟩:=dW hc.rel hq' hat'
      obtain⟨hat2,_⟩:=hs.atP hat
      obtain⟨e',he',hg'⟩:=dO hat2
      rw[he] at he'
      simp only[SV.dat.injEq] at he'
      subst he'
      rw[nB hg] at hg'
      have hpair:∃ x y,d0.t=.pair x y:=by
       obtain⟨t0,x0,f0⟩:=d0
       cases t0<;>cases i<;>simp only[yM,xQ,reduceCtorEq] at hg'<;>exact⟨_,_,rfl⟩
      obtain⟨tx,ty,hpair⟩:=hpair
      rw[hpair] at hta
      obtain⟨fs,hfs,hch⟩:=BB5 (hta.symm:tyN E.P (7+1) t=_)
      rw[← hpair] at hch
      obtain⟨fl,h1,h2,h3,h4,h5⟩:=A2s (w:=w) (b:=b) (o:=oo) hch hg'
      have ea:BJ2 gv (q.1,q.2++yM i)=BJ2 g (q.1,q.2++yM i):=by simp[BJ2,hr]
      rw[ea]
      have hz':d.t.size≠0:=fun e=>by rw[e] at hz;cases hz
      refine A1X (d:=d) hc he hV hl (by rw[eK hw,h4]) (jN hg hb h5) (by rw[nB hg];exact hg') ?_ ho ?_
      ·rcases hgn with h|h
       ·exact .inl (Au1 h A1e)
       ·exact .inr (rN h)
      ·simp only[execOp,hm,zP hx,Sem.run_bind,A9C hfs h1 (d:=6) h2 hz',Result.andThen_ok,Sem.run_pure]
       simp
    ·cases hk
   ·cases hk
  ·cases hk
 ·cases hk
theorem A2A {t e:TypeId} {d:Nat} {τ:Ty} {k:IntKind} {n:Int} {b oo len cap:Nat} (he:P.underlying t=some (.slice e)) (ht:tyN P (d+1) e=some τ) (h1:zA n=true) (h2:n.toNat < len):
  (Bk t (.slice (some ⟨b,oo,none⟩) len cap) (.int k n)).run P w=.ok (.pointer (some ⟨b,oo+n.toNat * τ.size,none⟩)) w:=by
 simp only[zA,Ar] at h1
 simp only[Bk,asIntOf,Sem.run_bind,Sem.run_pure,Result.andThen_ok,zE he]
 rw[AE ⟨h1,by omega⟩]
 simp only[Sem.run_bind,rK ht,Result.andThen_ok,Sem.run_pure,gY]
theorem A0p {t e:TypeId} {d:Nat} {τ:Ty} {k:IntKind} {n:Int} {b oo len:Nat} (he:P.underlying t=some (.array len e)) (ht:tyN P (d+1) e=some τ) (h1:zA n=true) (h2:n.toNat < len):
  (Bk t (.pointer (some ⟨b,oo,none⟩)) (.int k n)).run P w=.ok (.pointer (some ⟨b,oo+n.toNat * τ.size,none⟩)) w:=by
 simp only[zA,Ar] at h1
 simp only[Bk,asIntOf,Sem.run_bind,Sem.run_pure,Result.andThen_ok,zE he,Bt]
 rw[AE ⟨h1,by omega⟩]
 simp only[Sem.run_bind,rK ht,Result.andThen_ok,Sem.run_pure,gY]
theorem Aa2 {ρ:Operand→Value} {t:TypeId} {x i:Operand} {val:Value} (ho:o.op=.indexAddr t x i) (hr:(Bk t (ρ x) (ρ i)).run P w=.ok val w):(execOp ρ o).run P w=.ok (.value val) w:=by
 simp only[execOp,ho,Sem.run_bind,hr,Result.andThen_ok,Sem.run_pure]
theorem BB9 {f:Fl} (h:f.whole=true):f.base≠.gone:=AF9 h
theorem Ay8 {t:TypeId} {x i:Operand} (hc:Ctx E.P H S β a w o g) (hs:Sub gv g) (hm:o.op=.indexAddr t x i)
  (hk:aA gv o (E.ty t) x i some=some us):yY E.P H S β a w o (g.ups us):=by
 unfold aA at hk
 split at hk
 ·rename_i τ k n ht hi
  have ei:=zP (AC5 hc.rel (hs.sv hi (by simp)) cC)
  split at hk
  ·rename_i q hq
   split at hk
   ·rename_i τ' xs f hat
    split at hk
    ·rename_i hcond
     simp only[Ad,Ar,A8] at hcond
     obtain⟨⟨rfl,hew⟩,hgn⟩:=hcond
     simp only[Aj] at hk
     split at hk
     ·rename_i h1
      split at hk
      ·rename_i h2
       obtain⟨dd,ho,rfl⟩:=xA hk
       simp only[B6] at h2
       obtain⟨hq',hat',hr⟩:=AQ9 hs hq hat
       obtain⟨e,cr,L,c,he,hg,hb,hV,hl,hvr,hw,hcc,hvp,hx⟩:=AK9 hc.rel hq' hat' (rN hgn)
       obtain⟨el,hel,htl⟩:=Ai3 ht
       obtain⟨b,oo,cs,m,cap,rfl,him,hsb,hB,hz,hv⟩:=A4Q (BB9 hew) hvp (oZ (z:=τ'.dflt) h2)
       have ea:BJ2 gv (q.1,q.2++[.elm (A0 n)])=BJ2 g (q.1,q.2++[.elm (A0 n)]):=by simp[BJ2,hr]
       rw[ea]
       have hlen:m=Ag xs:=by
        have h3:=hvp
        simp only[zX] at h3
        replace h3:=h3.2
        cases hfb:Fl.base f with
        | own e2=>rw[hfb] at h3;obtain⟨ad,cap',e5,_⟩:=h3;simp only[Ak,AM,Bg] at e5;exact e5.2.1
        | gone=>exact absurd hfb (rN hgn)
        | _=>rw[hfb] at h3;simp only[Rd] at h3;obtain⟨ad,cap',e5,_⟩:=h3;simp only[Ak,AM,Bg] at e5;exact e5.2.1
       have hg2:xQ (q.2++[.elm (A0 n)]) e.t e.f e.x=some ⟨τ',A9 xs (A0 n) τ'.dflt,f.e⟩:=by rw[nB hg];rfl
       refine A1X (d:=⟨τ',A9 xs (A0 n) τ'.dflt,f.e⟩) (b:=b) (oo:=oo+A0 n * τ'.size) hc he hV hl ?_ (jN hg hb (by simp only[inB];exact⟨h2,trivial⟩)) hg2 (.inr (BB9 hew)) ho (Aa2 hm ?_)
       ·rw[eK hw]
        simp only[Ty.size] at hcc
        simp only[tJ,wX,hcc,him,Az]
       ·rw[zP hx,ei]
        exact A2A hel htl h1 (by omega)
      ·cases hk
     ·cases hk
    ·cases hk
   ·cases hk
  ·cases hk
 ·rename_i m τ k n ht hi
  have ei:=zP (AC5 hc.rel (hs.sv hi (by simp)) cC)
  split at hk
  ·rename_i q hq
   split at hk
   ·rename_i n' τ' xs f hat
    split at hk
    ·rename_i hcond
     simp only[Ad,Ar,A8,Ba] at hcond
     obtain⟨⟨rfl,rfl⟩,hgn⟩:=hcond
     simp only[Aj] at hk
     split at hk
     ·rename_i h1
      split at hk
      ·rename_i h2
       obtain⟨dd,ho,rfl⟩:=xA hk
       simp only[B6] at h2
       obtain⟨hq',hat',hr⟩:=aM hs hq hat
       obtain⟨e,cr,b,oo,he,hg,hb,hV,hl,hw,hx,hsol⟩:=dW hc.rel hq' hat'
       obtain⟨el,hel,htl⟩:=A1G ht
       have ea:BJ2 gv (q.1,q.2++[.idx (A0 n)])=BJ2 g (q.1,q.2++[.idx (A0 n)]):=by simp[BJ2,hr]
       rw[ea]
       have hg2:xQ (q.2++[.idx (A0 n)]) e.t e.f e.x=some ⟨τ',A9 xs (A0 n) τ'.dflt,f.a⟩:=by rw[nB hg];rfl
       refine A1X (d:=⟨τ',A9 xs (A0 n) τ'.dflt,f.a⟩) (b:=b) (oo:=oo+A0 n * τ'.size) hc he hV hl ?_ (jN hg hb (by simp only[inB];exact⟨h2,trivial⟩)) hg2 ?_ ho (Aa2 hm ?_)
       ·rw[eK hw]
        simp only[tJ,wX,h2,Az,AK0]
       ·rcases hgn with h|h
        ·exact .inl (Au1 h rfl)
        ·exact .inr (rN h)
       ·rw[zP hx,ei]
        exact A0p hel htl h1 h2
      ·cases hk
     ·cases hk
    ·cases hk
   ·cases hk
  ·cases hk
 ·cases hk
end
end Go.Rf

end
section
namespace Go.Rf
set_option linter.unusedSectionVars false
variable [T:Laid]
section
variable {P:Program} {H:Nat→Option (List Value)} {N:Nat} {g g' σ:yL} {V V':Nat→Option Value} {w w':World} {S S':Nat→Prop} {β β':Key→Option Nat} {a:Act} {o:Oper}
variable {E:Env} {gv:yL} {us:List Up}
theorem AM2:∀ {p:List PS} {t:Ty} {f:Fl} {x:t.D} {d:Dat} {y:Fl × t.D} {k ko:Key} {L:Loc} {c:List Value} {t':Ty} {b o:Nat},
  iJ p t f x d=some y→inB p t x→zG w t.size L=some c→zX S β H w k t f x c→tJ w t L p=some (t',.mem b o) →
  (∀ b' o',L=.mem b' o'→β ko=some b'∧∃ q cs,AN4 q w b' cs) →
  β (xY k ko p)=some b∧∃ q cs,AN4 q w b cs∧o+t'.size≤cs.size
 | [],t,f,x,d,y,k,ko,L,c,t',b,o,_,_,hc,_,hw,hL=>by
  simp only[tJ,Aa,Af] at hw
  obtain⟨rfl,rfl⟩:=hw
  obtain⟨h1,q0,cs,h2⟩:=hL _ _ rfl
  exact⟨h1,q0,cs,h2,(eV hc h2.blk).2⟩
 | .fst :: p,.pair s u,f,x,d,y,k,ko,L,c,t',b,o,hm,hi,hc,hv,hw,hL=>by
  simp only[iJ] at hm
  cases hm':iJ p s f.l x.1 d with
  | none=>simp[hm'] at hm
  | some z=>
   have h':=(uG hv).1
   rw[lU] at h'
   simp only[tJ,wX] at hw
   simp only[xY]
   refine AM2 hm' (by simpa[inB] using hi) (yJ (i:=0) (m:=s.size) hc (by simp[Ty.size])) h' hw (fun b' o' e=>?_)
   cases L with
   | reg _=>simp[AK0] at e
   | mem b2 o2=>simp only[AK0,Loc.mem.injEq] at e;rw[← e.1];exact hL _ _ rfl
 | .snd :: p,.pair s u,f,x,d,y,k,ko,L,c,t',b,o,hm,hi,hc,hv,hw,hL=>by
  simp only[iJ] at hm
  cases hm':iJ p u f.r x.2 d with
  | none=>simp[hm'] at hm
  | some z=>
   have h':=(uG hv).2
   have hl:=yC hv
   rw[lQ (by simpa[Ty.size] using hl)] at h'
   simp only[tJ,wX] at hw
   simp only[xY]
   refine AM2 hm' (by simpa[inB] using hi) (yJ (i:=s.size) (m:=u.size) hc (by simp[Ty.size])) h' hw (fun b' o' e=>?_)
   cases L with
   | reg _=>simp[AK0] at e
   | mem b2 o2=>simp only[AK0,Loc.mem.injEq] at e;rw[← e.1];exact hL _ _ rfl
 | .idx i :: p,.arr n t,f,x,d,y,k,ko,L,c,t',b,o,hm,hi,hc,hv,hw,hL=>by
  simp only[iJ] at hm
  cases hm':iJ p t f.a (A9 x i t.dflt) d with
  | none=>simp[hm'] at hm
  | some z=>
   simp only[hm',Option.bind_some] at hm
   split at hm
   ·rename_i hcond
    simp only[inB] at hi
    simp only[Ad] at hcond
    obtain⟨hx,hcl,h'⟩:=eN (AF9 hcond.1) hv
    have hlt:(i+1) * t.size≤n * t.size:=Ac _ hi.1
    rw[Ah] at hlt
    simp only[tJ,wX,hi.1,Az] at hw
    simp only[xY]
    refine AM2 hm' hi.2 (yJ (i:=i * t.size) (m:=t.size) hc (by simp only[Ty.size];omega)) (h' i _ (oZ (by omega))) hw (fun b' o' e=>?_)
    cases L with
    | reg _=>simp[AK0] at e
    | mem b2 o2=>simp only[AK0,Loc.mem.injEq] at e;rw[← e.1];exact hL _ _ rfl
   ·cases hm
 | .der :: p,.ptr t,f,x,d,y,k,ko,L,c,t',b,o,hm,hi,hc,hv,hw,hL=>by
  have main:∀ e,f.base=.own e→iJ p t e x d≠none→β (xY (k++[0]) k p)=some b∧∃ q cs,AN4 q w b cs∧o+t'.size≤cs.size:=by
   intro e hf hm'
   cases hm'':iJ p t e x d with
   | none=>exact absurd hm'' hm'
   | some z=>
    simp only[zX] at hv
    replace hv:=hv.2
    rw[hf] at hv
    obtain⟨b1,cs,rfl,hk,ho,hz,hv⟩:=hv
    simp only[Ty.size] at hc
    simp only[tJ,wX,hc] at hw
    have hc':=zT (o:=0) (n:=t.size) ho.blk (by omega)
    have:win cs.toList 0 t.size=cs.toList:=by rw[← hz,← A'];exact AE4 _
    rw[this] at hc'
    exact AM2 hm'' (by simpa[inB] using hi) hc' hv hw (fun b' o' e=>by simp only[Loc.mem.injEq] at e;rw[← e.1];exact⟨hk,_,cs,ho⟩)
  simp only[xY]
  cases f with
  | own e=>exact main e rfl (fun e=>by simp[iJ,e] at hm)
  | pin j g=>cases g with
   | own e=>exact main e rfl (fun e=>by simp[iJ,e] at hm)
   | _=>simp[iJ] at hm
  | _=>simp[iJ] at hm
 | .elm i :: p,.sl t,f,x,d,y,k,ko,L,c,t',b,o,hm,hi,hc,hv,hw,hL=>by
  simp only[inB] at hi
  have main:∀ e,f.base=.own e→iJ p t e (A9 x i t.dflt) d≠none→β (xY (k++[i]) k p)=some b∧∃ q cs,AN4 q w b cs∧o+t'.size≤cs.size:=by
   intro e hf hm'
   cases hm'':iJ p t e (A9 x i t.dflt) d with
   | none=>exact absurd hm'' hm'
   | some z=>
    simp only[zX] at hv
    replace hv:=hv.2
    rw[hf] at hv
    obtain⟨ad,cap,rfl,hlc,hv⟩:=hv
    rcases hv with hv|⟨b1,o1,cs,rfl,hk,ho,hz,hv⟩
    ·have:=hi.1;omega
    ·simp only[Ty.size] at hc
     simp only[tJ,wX,hc,hi.1,Az] at hw
     have hlt:(i+1) * t.size≤cap * t.size:=Ac _ (by have:=hi.1;omega)
     rw[Ah] at hlt
     have hc':=zT (o:=o1+i * t.size) (n:=t.size) ho.blk (by omega)
     exact AM2 hm'' hi.2 hc' (hv i _ (oZ hi.1)) hw (fun b' o' e=>by simp only[Loc.mem.injEq] at e;rw[← e.1];exact⟨hk,_,cs,ho⟩)
  simp only[xY]
  cases f with
  | own e=>exact main e rfl (fun e=>by simp[iJ,e] at hm)
  | pin j g=>cases g with
   | own e=>exact main e rfl (fun e=>by simp[iJ,e] at hm)
   | _=>simp[iJ] at hm
  | _=>simp[iJ] at hm
theorem aI:∀ {p:List PS} {k ko:Key},ko.length < k.length→(xY k ko p).length < (k++wL p).length
 | [],k,ko,h=>by simpa[xY,wL] using h
 | .fst :: p,k,ko,h=>by
  have:=aI (p:=p) (k:=k++[0]) (ko:=ko) (by simp;omega)
  simpa[xY,wL] using this
 | .snd :: p,k,ko,h=>by
  have:=aI (p:=p) (k:=k++[1]) (ko:=ko) (by simp;omega)
  simpa[xY,wL] using this
 | .idx i :: p,k,ko,h=>by
  have:=aI (p:=p) (k:=k++[i]) (ko:=ko) (by simp;omega)
  simpa[xY,wL] using this
 | .der :: p,k,ko,h=>by
  have:=aI (p:=p) (k:=k++[0]) (ko:=k) (by simp)
  simpa[xY,wL] using this
 | .elm i :: p,k,ko,h=>by
  have:=aI (p:=p) (k:=k++[i]) (ko:=k) (by simp)
  simpa[xY,wL] using this
theorem A3V {p:List PS} {t t':Ty} {c:List Value} {b o:Nat} (h:tJ w t (.reg c) p=some (t',.mem b o)):jumps p=true:=by
 cases hj:jumps p with
 | true=>rfl
 | false=>have:=jA hj h;simp at this
open Classical in
theorem Rel.store {r:Nat} {p:List PS} {e d:Dat} {f2:Fl} {x2:e.t.D} {cr cd:List Value} {t':Ty} {b₀ o₀:Nat} (h:Rel H N g V w S β) (he:(g r).sv=.dat e) (hm:iJ p e.t e.f e.x d=some (f2,x2)) (hb:inB p e.t e.x)
  (hV:V r=some (yK e.t cr)) (hl:cr.length=e.t.size) (hw:tJ w e.t (.reg cr) p=some (t',.mem b₀ o₀)) (ht:t'.size=d.t.size)
  (hs:Sane w S' β') (hSS:∀ b,S b→S' b) (hβ1:∀ j s b,j≠r→(g j).sv≠.dead→β (j :: s)=some b→β' (j :: s)=some b) (hβ2:∀ s b,¬ wL p <+: s→β (r :: s)=some b→β' (r :: s)=some b)
  (hd:zX S' β' H w (r :: wL p) d.t d.f d.x cd) (hchg:Chg w w' b₀ o₀ cd) (hsz:w'.heap.size=w.heap.size):
  Rel H N (g.up (.mod r (.dat ⟨e.t,x2,f2⟩))) V w' S' β':=by
 have hj:=A3V hw
 obtain⟨c,hv,hV2⟩:=h.dat he
 have:=rH (Ap (hV2.symm.trans hV)) (yC hv) hl
 subst this
 have hcells:zG w e.t.size (.reg c)=some c:=by simp[zG,hl]
 obtain⟨hown,cs,hB,_⟩:=AM2 (k:=[r]) (ko:=[]) hm hb hcells hv hw (by simp)
 have hlen:=aI (p:=p) (k:=[r]) (ko:=[]) (by simp)
 obtain⟨s0,hs0⟩:=nI (p:=p) (k:=[r]) (ko:=[]) hj
 have hnp:¬ (r :: wL p) <+: xY [r] [] p:=fun hp=>by have:=hp.length_le;simp at this hlen;omega
 have hown':β' (xY [r] [] p)=some b₀:=by
  rw[hs0] at hown hnp ⊢
  simp only[A5,Bc] at hown hnp ⊢
  exact hβ2 s0 b₀ (fun hp=>hnp ((BE r).2 hp)) hown
 have hSb:¬ S' b₀:=hs.sep _ _ hown'
 let β0:Key→Option Nat:=fun key=>if (r :: wL p) <+: key then β key else β' key
 have hv0:zX S' β0 H w [r] e.t e.f e.x c:=zS (fun b hb=>⟨hSS b hb,rfl⟩) (fun s b hb=>⟨by
  simp only[A5,Bc] at hb ⊢
  show (if _ then _ else _)=_
  split
  ·exact hb
  ·rename_i hnp';exact hβ2 s b (fun hp=>hnp' ((BE r).2 hp)) hb,rfl⟩) hv
 obtain⟨c2,g1,g2,g3⟩:=AY0 (S:=S') (β:=β0) (β':=β') (H:=H) (k:=[r]) (ko:=[]) (cd:=cd) hm hb hcells hv0 hw ht (by simp) (by simp)
  (fun key hk=>by show _=(if _ then _ else _);rw[As (by simpa using hk)])
  (fun key hk=>by
   have hk:(if (r :: wL p) <+: key then β key else β' key)=some b₀:=hk
   split at hk
   ·exact h.sane.inj _ _ _ hk hown
   ·exact hs.inj _ _ _ hk hown')
  (fun key hk=>hs.inj _ _ _ hk hown') hSb hchg (by simpa using hd)
 have:=g2 hj
 subst this
 have hne:∀ b,S b→b≠b₀:=fun b hb e=>hSb (e▸hSS b hb)
 refine h.mod he rfl ⟨hs.inj,hs.sep,fun k b hk=>by rw[hsz];exact hs.live k b hk,fun b hk=>by rw[hsz];exact hs.liveS b hk,hs.tabs fun b hb=>⟨hb,hchg.other b (fun e=>hSb (e▸hb))⟩⟩ (fun b hb=>⟨hSS b hb,hchg.other b (hne b hb)⟩)
  (fun j s b hjr ha hb=>⟨hβ1 j s b hjr ha hb,hchg.other b (fun e=>?_)⟩) ⟨c2,g3,hV⟩
 subst e
 have:=h.sane.inj _ _ _ hb hown
 rw[hs0] at this
 simp at this
 exact hjr this.1
theorem Step.store {b₀ o₀:Nat} {cd:List Value} {key:Key} (hk:β key=some b₀) (hchg:Chg w w' b₀ o₀ cd) (hsz:w'.heap.size=w.heap.size):Step w S β w' S β where
 size:=by omega
 old b hb hnot:=hchg.other b (fun e=>hnot key (e▸hk))
 new k b hb:=.inl ⟨k,hb⟩
 keepS _ hb:=hb
 newS _ hb:=.inl hb
 out:=hchg.out
def B3I (S:Nat→Prop) (β:Key→Option Nat) (k:Key):Nat→Prop:=fun b=>S b∨∃ s,β (k++s)=some b
def By7 (β:Key→Option Nat) (k:Key):Key→Option Nat:=fun k'=>match pX k k' with|some _=>none|none=>β k'
theorem AH0 {k k':Key} {b:Nat} (h:By7 β k k'=some b):pX k k'=none∧β k'=some b:=by
 unfold By7 at h;split at h
 ·cases h
 ·rename_i e;exact⟨e,h⟩
theorem Sane.cut (h:Sane w S β) (k:Key):Sane w (B3I S β k) (By7 β k) where
 tab:=h.tabs fun b hb=>⟨.inl hb,rfl⟩
 inj k1 k2 b h1 h2:=h.inj _ _ _ (AH0 h1).2 (AH0 h2).2
 sep k1 b h1 h2:=by
  obtain⟨e,h1⟩:=AH0 h1
  rcases h2 with h2|⟨s,h2⟩
  ·exact h.sep _ _ h1 h2
  ·exact aK e s (h.inj _ _ _ h1 h2)
 live k1 b h1:=h.live _ _ (AH0 h1).2
 liveS b hb:=hb.elim (h.liveS b) fun ⟨s,h'⟩=>h.live _ _ h'
theorem Step.cut (k:Key):Step w S β w (B3I S β k) (By7 β k) where
 size:=Al _
 old _ _ _:=rfl
 new _ _ hb:=.inl ⟨_,(AH0 hb).2⟩
 keepS _ hb:=.inl hb
 newS _ hb:=hb.elim .inl fun ⟨s,h⟩=>.inr (.inl ⟨_,h⟩)
 out:=.rfl'
theorem Br5 {k:Key} {t:Ty} {f:Fl} {x:t.D} {c:List Value} (hw:f.whole=true) (h:zX S β H w k t f x c):zX (B3I S β k) (By7 β k) H w k t .sh x c:=
 xD.2 (uX hw (fun _=>.inl) (fun s _ hb=>.inr ⟨s,hb⟩) h)
theorem AH8:∀ {p:List PS} {t:Ty} {f:Fl} {x:t.D} {d d0:Dat} {y:Fl × t.D},iJ p t f x d=some y→xQ p t f x=some d0→d0.t=d.t
 | [],t,f,x,d,d0,y,hm,hg=>by
  simp only[xQ,Aa] at hg;subst hg
  simp only[iJ,Ab] at hm
  obtain⟨z,hz,_⟩:=hm
  exact (tD hz).1.symm
 | .fst :: p,.pair a b,f,x,d,d0,y,hm,hg=>by
  simp only[iJ,Ab] at hm;obtain⟨z,hz,_⟩:=hm
  simp only[xQ] at hg;exact AH8 hz hg
 | .snd :: p,.pair a b,f,x,d,d0,y,hm,hg=>by
  simp only[iJ,Ab] at hm;obtain⟨z,hz,_⟩:=hm
  simp only[xQ] at hg;exact AH8 hz hg
 | .idx i :: p,.arr n t,f,x,d,d0,y,hm,hg=>by
  simp only[iJ,Aq] at hm;obtain⟨z,hz,_⟩:=hm
  simp only[xQ] at hg;exact AH8 hz hg
 | .der :: p,.ptr t,f,x,d,d0,y,hm,hg=>by
  simp only[xQ] at hg
  cases f with
  | own e=>simp only[iJ,Ab] at hm;obtain⟨z,hz,_⟩:=hm;exact AH8 hz hg
  | pin j g=>cases g with
   | own e=>simp only[iJ,Ab] at hm;obtain⟨z,hz,_⟩:=hm;exact AH8 hz hg
   | _=>simp[iJ] at hm
  | _=>simp[iJ] at hm
 | .elm i :: p,.sl t,f,x,d,d0,y,hm,hg=>by
  simp only[xQ] at hg
  cases f with
  | own e=>simp only[iJ,Aq] at hm;obtain⟨z,hz,_⟩:=hm;exact AH8 hz hg
  | pin j g=>cases g with
   | own e=>simp only[iJ,Aq] at hm;obtain⟨z,hz,_⟩:=hm;exact AH8 hz hg
   | _=>simp[iJ] at hm
  | _=>simp[iJ] at hm
theorem BK8 {mv:Bool} {t:Option Ty} {x:Operand} {d:Dat} {us:List Up} {r:Nat} {e:Dat} (ht:take g mv t x (sv g x)=some (d,us)) (he:(g r).sv=.dat e):
  ((g.ups us) r).sv=.dead∨∃ f,((g.ups us) r).sv=.dat ⟨e.t,e.x,f⟩:=by
 have same:((g.ups []) r).sv=.dead∨∃ f,((g.ups []) r).sv=.dat ⟨e.t,e.x,f⟩:=.inr ⟨e.f,he⟩
 have dead:∀ {g1:yL} {s:Nat},((g1 r).sv=.dead∨∃ f,(g1 r).sv=.dat ⟨e.t,e.x,f⟩)→((g1.up (.put s .dead)) r).sv=.dead∨∃ f,((g1.up (.put s .dead)) r).sv=.dat ⟨e.t,e.x,f⟩:=by
  intro g1 s h
  by_cases hr:r=s
  ·subst hr;left;rw[tH]
  ·rw[nJ hr];exact h
 have modc:∀ {q:Nat} {e':Dat} {f:Fl},(g q).sv=.dat e'→((g.up (.mod q (.dat ⟨e'.t,e'.x,f⟩))) r).sv=.dead∨∃ f',((g.up (.mod q (.dat ⟨e'.t,e'.x,f⟩))) r).sv=.dat ⟨e.t,e.x,f'⟩:=by
  intro q e' f hq
  by_cases hr:r=q
  ·subst hr
   rw[he] at hq
   simp only[SV.dat.injEq] at hq
   subst hq
   right
   exact⟨f,by rw[show g.up (.mod r (.dat ⟨e.t,e.x,f⟩)) r=_ from jC (u:=.mod r _)];rfl⟩
  ·rw[oQ (u:=.mod q _) hr];exact same
 have pubc:∀ {q:Nat} {e':Dat} {f:Fl},(g q).sv=.dat e'→((g.up (.pub q (.dat ⟨e'.t,e'.x,f⟩))) r).sv=.dead∨∃ f',((g.up (.pub q (.dat ⟨e'.t,e'.x,f⟩))) r).sv=.dat ⟨e.t,e.x,f'⟩:=by
  intro q e' f hq
  by_cases hr:r=q
  ·subst hr
   rw[he] at hq
   simp only[SV.dat.injEq] at hq
   subst hq
   right
   exact⟨f,by rw[show g.up (.pub r (.dat ⟨e.t,e.x,f⟩)) r=_ from jC (u:=.pub r _)];rfl⟩
  ·rw[oQ (u:=.pub q _) hr];exact same
 cases hv:sv g x with
 | dead=>rw[hv] at ht;simp[take] at ht
 | und=>rw[hv] at ht;simp[take] at ht
 | unk=>rw[hv] at ht;simp[take] at ht
 | tup d=>rw[hv] at ht;simp[take] at ht
 | adr _ _ _ _=>rw[hv] at ht;simp[take] at ht
 | nils=>
  rw[hv] at ht
  simp only[take] at ht
  split at ht
  ·simp only[Aa,Af] at ht;rw[← ht.2];exact same
  ·cases ht
 | clo f rs=>
  rw[hv] at ht
  cases rs with
  | nil=>simp only[take,Aa,Af] at ht;rw[← ht.2];exact same
  | cons a rs=>simp[take] at ht
 | dat e=>
  rw[hv] at ht
  simp only[take] at ht
  split at ht
  ·simp only[Aa,Af] at ht;rw[← ht.2];exact same
  ·split at ht
   ·split at ht
    ·simp only[Aa,Af] at ht;rw[← ht.2]
     exact dead same
    ·cases ht
   ·cases ht
 | als r p c s=>
  rw[hv] at ht
  simp only[take] at ht
  split at ht
  ·split at ht
   ·rename_i e he
    split at ht
    ·split at ht
     ·simp only[Aa,Af] at ht;rw[← ht.2];exact same
     ·split at ht
      ·split at ht<;>simp only[Aa,Af] at ht<;>rw[← ht.2]
       ·exact modc he
       ·exact pubc he
      ·cases ht
    ·cases ht
   ·cases ht
  ·cases ht
 | pend r p c s u e=>
  rw[hv] at ht
  simp only[take] at ht
  split at ht
  ·rename_i j
   split at ht
   ·split at ht
    ·rename_i e' he
     simp only[Aa,Af] at ht;rw[← ht.2]
     exact dead (modc he)
    ·cases ht
   ·cases ht
  ·cases ht
end
end Go.Rf

end
section
namespace Go.Rf
set_option linter.unusedSectionVars false
variable [T:Laid]
section
variable {P:Program} {H:Nat→Option (List Value)} {N:Nat} {g g' σ:yL} {V V':Nat→Option Value} {w w':World} {S S':Nat→Prop} {β β':Key→Option Nat} {a:Act} {o:Oper}
variable {E:Env} {gv:yL} {us:List Up}
theorem Step.at (h:Step w S β w S' β') (hz:w'.heap.size=w.heap.size):Step w' S β w' S' β' where
 size:=Al _
 old _ _ _:=rfl
 new k b hb:=by rw[hz];exact h.new k b hb
 keepS:=h.keepS
 newS b hb:=by rw[hz];exact h.newS b hb
 out:=.rfl'
theorem A61 {q:Pl} {d:Dat} {u:Up} (h:BK4 g q d=some u):∃ e d' y,(g q.1).sv=.dat e∧iJ q.2 e.t e.f e.x d'=some y∧u=.mod q.1 (.dat ⟨e.t,y.2,y.1⟩)∧(d'=d∨(d.f.whole=true∧d'=⟨d.t,d.x,.sh⟩)):=by
 unfold BK4 at h
 split at h
 ·rename_i e he
  split at h
  ·rename_i y hy
   simp only[Aa] at h
   exact⟨e,d,y,he,hy,h.symm,.inl rfl⟩
  ·split at h
   ·rename_i hw
    simp only[Ab] at h
    obtain⟨y,hy,rfl⟩:=h
    exact⟨e,_,y,he,hy,rfl,.inr ⟨hw,rfl⟩⟩
   ·cases h
 ·cases h
theorem Ar9 {r:Nat} {p s:Key} (h:¬ p <+: s):pX (r :: p) (r :: s)=none:=by
 cases hst:pX (r :: p) (r :: s) with
 | none=>rfl
 | some s'=>
  have:=jX.1 hst
  simp only[A5,Ak,AS] at this
  exact absurd ⟨s',this.symm⟩ h
theorem A2e {t:TypeId} {r:Nat} {p:List PS} {e d d':Dat} {y:Fl × e.t.D} {cr c:List Value} {t':Ty} {b₀ o₀:Nat} {β1:Key→Option Nat}
  (h:Rel H N g V w S β) (he:(g r).sv=.dat e) (hm:iJ p e.t e.f e.x d'=some y) (hd':d'=d∨(d.f.whole=true∧d'=⟨d.t,d.x,.sh⟩)) (hwh:d.f.whole=true) (hb:inB p e.t e.x)
  (hV:V r=some (yK e.t cr)) (hl:cr.length=e.t.size) (hw:tJ w e.t (.reg cr) p=some (t',.mem b₀ o₀)) (ht:t'=d.t) (hty:tyN P 8 t=some d.t)
  (hs:Sane w S β1) (hst:Step w S β w S β1) (hβ1:∀ j s b,j≠r→(g j).sv≠.dead→β (j :: s)=some b→β1 (j :: s)=some b) (hβ2:∀ s b,¬ wL p <+: s→β (r :: s)=some b→β1 (r :: s)=some b)
  (hd:zX S β1 H w (r :: wL p) d.t d.f d.x c):
  ∃ w' S2 β2,(storeVar t ⟨b₀,o₀,none⟩ (yK d.t c)).run P w=.ok () w'∧Rel H N (g.up (.mod r (.dat ⟨e.t,y.2,y.1⟩))) V w' S2 β2∧Step w S β w' S2 β2:=by
 obtain⟨c1,hv,hV2⟩:=h.dat he
 have:=rH (Ap (hV2.symm.trans hV)) (yC hv) hl
 subst this
 have hcells:zG w e.t.size (.reg c1)=some c1:=by simp[zG,hl]
 obtain⟨hown,q0,cs,hB,hz⟩:=AM2 (k:=[r]) (ko:=[]) hm hb hcells hv hw (by simp)
 subst ht
 have hlen:=yC hd
 obtain⟨w',hrun,hchg,hsz⟩:=A3j (P:=P) hty hB hz hlen (A37 hwh hd)
 rcases hd' with rfl|⟨_,rfl⟩
 ·exact⟨w',S,β1,hrun,h.store he hm hb hV hl hw rfl hs (fun _ h=>h) hβ1 hβ2 hd hchg hsz,(Step.store hown hchg hsz).trans (hst.at hsz)⟩
 ·refine⟨w',B3I S β1 (r :: wL p),By7 β1 (r :: wL p),hrun,h.store he hm hb hV hl hw rfl (hs.cut _) (fun _ h=>.inl h) (fun j s b hj ha hb=>?_) (fun s b hs hb=>?_) (Br5 hwh hd) hchg hsz,
   (Step.store hown hchg hsz).trans ((hst.trans (.cut _)).at hsz)⟩
  ·have:=hβ1 j s b hj ha hb
   unfold By7;rw[yQ hj];exact this
  ·have:=hβ2 s b hs hb
   unfold By7;rw[Ar9 hs];exact this
theorem A28 {ρ:Operand→Value} {t:TypeId} {x y:Operand} {ad:Addr} {v:Value} (ho:o.op=.store t x y) (hx:ρ x=.pointer (some ad)) (hy:ρ y=v) (hr:(storeVar t ad v).run P w=.ok () w'):(execOp ρ o).run P w=.ok .skip w':=by
 simp only[execOp,ho,hx,hy,Instr.storeAt,Bt,Sem.run_bind,Sem.run_pure,Result.andThen_ok,hr]
theorem A6F:∀ {p q:List PS} {cs:List Bool},A2y p q=some cs→(∀ c ∈ cs,c=true)→p=q
 | [],[],_,_,_=>rfl
 | [],_ :: _,_,h,_=>by simp[A2y] at h
 | _ :: _,[],_,h,_=>by simp[A2y] at h
 | a :: p,b :: q,cs,h,hc=>by
  simp only[A2y] at h
  split at h
  ·rename_i l m hl hm
   simp only[Aa] at h;subst h
   have ih:=A6F hm (fun c h=>hc c (by simp[h]))
   subst ih
   have:a=b:=by
    cases a<;>cases b<;>simp only[PS.eqc,reduceCtorEq,Aa] at hl<;>first
     | rfl
     | (subst hl;have:=hc _ (List.mem_append_left _ (List.mem_singleton.2 rfl));simp only[Ar] at this;rw[this])
   rw[this]
  ·cases h
theorem A2u {ρ:Type} {k:Option ρ} {v:ρ}:∀ {cs:List Bool},A86 cs k=some v→(∀ c ∈ cs,c=true)∧k=some v
 | [],h=>⟨by simp,h⟩
 | true :: l,h=>by
  obtain⟨h1,h2⟩:=A2u (cs:=l) h
  exact⟨by intro c hc;rcases AO.1 hc with rfl|hc;rfl;exact h1 c hc,h2⟩
 | false :: l,h=>by simp[A86] at h
theorem Bp4 {mv:Bool} {t:Ty}:(Fl.ne mv t).whole=true:=by
 unfold Fl.ne;split
 ·assumption
 ·rfl
theorem Ar3 {mv:Bool} {t:Option Ty} {x:Operand} {d:Dat} {us:List Up} (ht:take g mv t x (sv g x)=some (d,us)):d.f.whole=true:=by
 cases hv:sv g x with
 | dead=>rw[hv] at ht;simp[take] at ht
 | und=>rw[hv] at ht;simp[take] at ht
 | unk=>rw[hv] at ht;simp[take] at ht
 | tup d=>rw[hv] at ht;simp[take] at ht
 | adr _ _ _ _=>rw[hv] at ht;simp[take] at ht
 | nils=>
  rw[hv] at ht
  simp only[take] at ht
  split at ht
  ·simp only[Aa,Af] at ht;rw[← ht.1]
   exact Bp4
  ·cases ht
 | clo f rs=>
  rw[hv] at ht
  cases rs with
  | nil=>simp only[take,Aa,Af] at ht;rw[← ht.1];rfl
  | cons a rs=>simp[take] at ht
 | dat e=>
  rw[hv] at ht
  simp only[take] at ht
  split at ht
  ·rename_i hf
   simp only[Aa,Af] at ht;rw[← ht.1,uY hf];rfl
  ·split at ht
   ·rename_i hw
    split at ht
    ·simp only[Aa,Af] at ht;rw[← ht.1];exact hw
    ·cases ht
   ·cases ht
 | als r p c s=>
  rw[hv] at ht
  simp only[take] at ht
  split at ht
  ·split at ht
   ·split at ht
    ·split at ht
     ·rename_i hf
      simp only[Aa,Af] at ht;rw[← ht.1,uY hf];rfl
     ·split at ht
      ·rename_i hw
       split at ht<;>simp only[Aa,Af] at ht<;>rw[← ht.1]
       ·exact hw
       ·rfl
      ·cases ht
    ·cases ht
   ·cases ht
  ·cases ht
 | pend r p c s u e=>
  rw[hv] at ht
  simp only[take] at ht
  split at ht
  ·split at ht
   ·rename_i hok
    split at ht
    ·simp only[Aa,Af] at ht;rw[← ht.1]
     simp only[Ad] at hok
     exact hok.1.2
    ·cases ht
   ·cases ht
  ·cases ht
theorem A9b:a.put none undef=a:=rfl
theorem A3L {mv:Bool} {t:TypeId} {x y:Operand} {q:Pl} {d d0:Dat} {us:List Up} {u:Up} (hc:Ctx E.P H S β a w o g) (hs:Sub gv g) (ho:o.op=.store t x y) (hdst:o.dst=none)
  (hq:AA6 gv x (sv gv x)=some q) (hat:atP gv q.1 q.2=some d0) (hty:E.ty t=some d0.t) {tt:Option Ty} (ht:take gv mv tt y (sv gv y)=some (d,us)) (hu:BK4 (gv.ups us) q d=some u):yY E.P H S β a w o (g.ups (us++[u])):=by
 obtain⟨ht',hs'⟩:=AF5 hs ht
 obtain⟨hq',hat',hr⟩:=aM hs hq hat
 obtain⟨e,cr,b,oo,he,hg,hb,hV,hl,hw,hx,_⟩:=dW hc.rel hq' hat'
 obtain⟨S1,β1,c,h1,h2,h3,h4⟩:=bX hc.rel ht' (n:=a.tmps.size) (hc.dead _ (Al _)) (Al _)
 obtain⟨e1,d',yy,he1,hm,rfl,hd'⟩:=A61 hu
 have hq1:q.1 < a.tmps.size:=hc.dead.root he
 have he1':((g.ups us) q.1).sv=.dat e1:=by rw[hs'.get he1 (by simp)];exact he1
 have hee:∃ f,e1=⟨e.t,e.x,f⟩:=by
  rcases BK8 ht' he with h|⟨f,h⟩
  ·rw[he1'] at h;cases h
  ·rw[he1'] at h;simp only[SV.dat.injEq] at h;exact⟨f,h⟩
 obtain⟨f,rfl⟩:=hee
 have hwh:=Ar3 ht'
 obtain⟨f1,hg1⟩:=jS (g:=f) hg
 have htyd:d0.t=d'.t:=AH8 (d0:=⟨d0.t,d0.x,f1⟩) hm hg1
 have htyd2:d0.t=d.t:=by
  rcases hd' with rfl|⟨_,rfl⟩<;>exact htyd
 let g1:yL:=(upN (g.ups us) a.tmps.size d).up (.put a.tmps.size .dead)
 have hk:Rel H a.tmps.size g1 (upd (vals a) a.tmps.size (yK d.t c)) w S1 β1:=h1.kill fun _ _=>rfl
 obtain⟨cc,hvr,hVn⟩:=h1.dat bM
 have hcc:cc=c:=by
  simp only[upd,Az] at hVn
  exact (rH (Ap hVn) h4 (yC hvr)).symm
 subst hcc
 have hg1r:(g1 q.1).sv=.dat ⟨e.t,e.x,f⟩:=by
  show (((upN (g.ups us) a.tmps.size d).up (.put a.tmps.size .dead)) q.1).sv=_
  rw[nJ (by omega),cX (by omega)];exact he1'
 have hV1:(upd (vals a) a.tmps.size (yK d.t cc)) q.1=some (yK e.t cr):=by
  simp only[upd];rw[As (by omega)];exact hV
 have hn1:∀ j,(g1 j).sv≠.dead→j≠a.tmps.size:=fun j hj e'=>by
  subst e';exact hj (by show (((upN (g.ups us) a.tmps.size d).up (.put a.tmps.size .dead)) a.tmps.size).sv=_;rw[tH])
 obtain⟨w',S2,β2,hrun,hrel,hstep⟩:=A2e (P:=E.P) (t:=t) hk hg1r hm hd' hwh hb hV1 hl hw htyd2 (by rw[← htyd2];exact hty) (hk.sane.rekey [a.tmps.size] (q.1 :: wL q.2)) (.rekey _ _)
  (fun j s b hj ha hbb=>by rw[vX (yQ hj) (yQ (hn1 j ha))];exact hbb)
  (fun s b hsp hbb=>by rw[vX (Ar9 hsp) (yQ (by omega))];exact hbb) (lI hvr)
 intro K Q hK
 have hy:a.eval y=yK d.t cc:=zP h3
 refine A96 (A28 ho (zP hx) hy hrun) ?_
 rw[hdst,A9b]
 refine hK a w' S2 β2 rfl rfl ?_ (h2.trans hstep)
 rw[xS]
 have hD:yW a.tmps.size (g.ups us):=hc.dead.ups fun u hu=>hc.dead.lt (aC ht' u hu)
 refine hrel.fin (fun i hi=>?_) (hD.up hq1) (fun i hi=>?_)
 ·show ((g.ups us).up _) i=(g1.up _) i
  have hgi:g1 i=(g.ups us) i:=by
   show ((upN (g.ups us) a.tmps.size d).up (.put a.tmps.size .dead)) i=_
   rw[nJ (by omega),cX (by omega)]
  by_cases e':i=q.1
  ·subst e'
   rw[show (g.ups us).up (.mod q.1 _) q.1=_ from jC (u:=.mod q.1 _),show g1.up (.mod q.1 _) q.1=_ from jC (u:=.mod q.1 _)]
   show Up.on _ ((g.ups us) q.1)=Up.on _ (g1 q.1)
   rw[hgi]
  ·rw[oQ (u:=.mod q.1 _) e',oQ (u:=.mod q.1 _) e',hgi]
 ·simp only[upd];rw[As (by omega)]
theorem A7D {q:Pl} {t:Ty} (h:A5t g q=some t):∃ d,atP g q.1 q.2=some d∧d.t=t:=by
 unfold A5t at h
 simp only[Ab] at h
 exact h
theorem A5V {mv:Bool} {t:TypeId} {x y:Operand} (hc:Ctx E.P H S β a w o g) (hs:Sub gv g) (hm:o.op=.store t x y)
  (hk:A2Z gv mv o (E.ty t) x y some=some us):yY E.P H S β a w o (g.ups us):=by
 unfold A2Z at hk
 split at hk
 ·rename_i q hdst hq
  split at hk
  ·rename_i hta
   simp only[Ad,Ar] at hta
   obtain⟨hta,hsome⟩:=hta
   obtain⟨τ,hτ⟩:=B3.1 hsome
   rw[hτ] at hta
   obtain⟨d0,hat,rfl⟩:=A7D hta
   split at hk
   ·rename_i j r p c s u d hy
    split at hk
    ·rename_i cs hcs
     split at hcs
     ·rename_i hcond
      simp only[Ad,A8,A3] at hcond
      obtain⟨⟨⟨hrq,hok⟩,hwh⟩,hjq⟩:=hcond
      split at hk
      ·rename_i uu hu
       obtain⟨hall,hk⟩:=A2u hk
       simp only[Aa] at hk;subst hk
       have hpq:=A6F hcs hall
       have hjq:j≠q.1:=fun e=>by rw[e] at hjq;simp at hjq
       obtain⟨hq',hat',hr⟩:=aM hs hq hat
       obtain⟨e,cr,b,oo,he,hg,hb,hV,hl,hw,hx,_⟩:=dW hc.rel hq' hat'
       obtain⟨e1,d',yy,he1,hmm,rfl,hd'⟩:=A61 hu
       have:e1=e:=by rw[← hr,he] at he1;simp only[SV.dat.injEq] at he1;exact he1.symm
       subst this
       have htyd:d0.t=d'.t:=AH8 hmm hg
       have htyd2:d0.t=d.t:=by rcases hd' with rfl|⟨_,rfl⟩<;>exact htyd
       have hj:(g j).sv=.pend r p c s u d:=hs.sv hy (by simp)
       have hss:=hc.rel.slots j
       rw[hj] at hss
       obtain⟨h0,_,_,_,h4⟩:=hss
       subst hrq
       subst hpq
       obtain⟨_,β2,cc,hβ2,hvr,hVj⟩:=h4 (by rw[Sub.okU hr];exact hok) e1 he
       have hk1:Rel H a.tmps.size (g.up (.put j .dead)) (vals a) w S β:=hc.rel.kill fun _ _=>rfl
       have hd1:((g.up (.put j .dead)) j).sv=.dead:=by rw[tH]
       have hd2:((g.up (.put j .dead)) q.1).sv=.dat e1:=by rw[nJ (B7 hjq)];exact he
       obtain⟨hsane,hkeep⟩:=hk1.repl hβ2 hd1 hd2
       obtain⟨w',S2,β3,hrun,hrel,hstep⟩:=A2e (P:=E.P) (t:=t) hk1 hd2 hmm hd' hwh hb hV hl hw htyd2 (by rw[← htyd2];exact hτ) hsane (BL2.repl_or hβ2 hc.rel.sane).2 hkeep
        (fun s b hsp hbb=>by
         rcases hβ2 with rfl|⟨b2,hb2,rfl⟩
         ·exact hbb
         ·unfold repl
          rw[As (fun e3=>hsp (by simp only[Ak,AS] at e3;rw[e3];exact List.prefix_rfl)),As (by simp[B7 hjq])];exact hbb) hvr
       intro K Q hK
       have hjN:=hc.dead.lt (show (g j).sv≠.dead by rw[hj];simp)
       have hyv:a.eval (.tmp j)=yK d.t cc:=zP (x:=.tmp j) hVj
       refine A96 (A28 hm (zP hx) hyv hrun) ?_
       rw[hdst,A9b]
       exact hK a w' S2 β3 rfl rfl hrel hstep
      ·cases hk
     ·cases hcs
    ·rename_i hnone
     split at hk
     ·rename_i d' us' ht
      split at hk
      ·rename_i u' hu
       simp only[Aa] at hk;subst hk
       rw[← hy] at ht
       exact A3L hc hs hm hdst hq hat hτ ht hu
      ·cases hk
     ·cases hk
   ·split at hk
    ·rename_i d' us' ht
     split at hk
     ·rename_i u' hu
      simp only[Aa] at hk;subst hk
      exact A3L hc hs hm hdst hq hat hτ ht hu
     ·cases hk
    ·cases hk
  ·cases hk
 ·cases hk
theorem A4Z {mv:Bool} {t:Option Ty} {x:Operand} (hc:Ctx P H S β a w o g) (hs:Sub gv g) (hm:o.op=.assign x)
  (hk:Ar6 gv mv o t x some=some us):yY P H S β a w o (g.ups us):=by
 have hr:=A9U (P:=P) (w:=w) (a:=a) (.inr hm)
 have tk:∀ {d us dd},take gv mv t x (sv gv x)=some (d,us)→o.dst=some dd→yY P H S β a w o (g.ups (us++[.put dd (.dat d)])):=fun ht ho=>
  B00 hc hs ht ho (fun v hv=>by rw[← hv];exact hr)
 unfold Ar6 at hk
 split at hk
 ·obtain⟨dd,ho,rfl⟩:=xA hk
  exact Ap2 hc.rel hc.dead ho (wP hc.opIn ho) hr trivial
 rename_i hnn;clear hnn
 split at hk
 ·rename_i r p c s hx
  obtain⟨dd,ho,rfl⟩:=xA hk
  obtain⟨i,rfl,hi⟩:=rD (hs.sv hx (by simp)) (by simp) (by simp) (by simp)
  exact A36 hc hi (iU (hc.dead.lt (by rw[hi];simp))) ho hr
 ·rename_i f rs hx
  obtain⟨dd,ho,rfl⟩:=xA hk
  obtain⟨i,rfl,hi⟩:=rD (hs.sv hx (by simp)) (by simp) (by simp) (by simp)
  have hss:=hc.rel.slots i
  rw[hi] at hss
  obtain⟨h1,h2⟩:=hss
  refine Ap2 hc.rel hc.dead ho (wP hc.opIn ho) hr (A8m h1 ?_)
  rw[iU (hc.dead.lt (by rw[hi];simp))] at h2
  exact h2
 ·rename_i r p c s u d hx
  split at hk
  ·rename_i j e ho
   split at hk
   ·rename_i hcond
    simp only[Ad,A8,A3] at hcond
    obtain⟨⟨⟨⟨hre,hp⟩,hok⟩,hdat⟩,hje⟩:=hcond
    simp only[Aa] at hk;subst hk
    subst hre
    have hp:p=[]:=by simpa using hp
    subst hp
    have hje:j≠r:=fun e=>by rw[e] at hje;simp at hje
    have hj:(g j).sv=.pend r [] c s u d:=hs.sv hx (by simp)
    have hss:=hc.rel.slots j
    rw[hj] at hss
    obtain⟨h0,_,_,_,h4⟩:=hss
    have hd:=wP hc.opIn ho
    intro K Q hK
    have hk1:Rel H a.tmps.size (g.up (.put j .dead)) (vals a) w S β:=hc.rel.kill fun _ _=>rfl
    have hjN:=hc.dead.lt (show (g j).sv≠.dead by rw[hj];simp)
    unfold Bl6 at hdat
    split at hdat
    ·rename_i dr hdr
     have hrr:=hs.get hdr (by simp)
     have hdr':(g r).sv=.dat dr:=by rw[hrr];exact hdr
     obtain⟨_,β2,cc,hβ2,hvr,hVj⟩:=h4 (by rw[Sub.okU hrr];exact hok) dr hdr'
     have hd1:((g.up (.put j .dead)) j).sv=.dead:=by rw[tH]
     have hd2:((g.up (.put j .dead)) r).sv=.dat dr:=by rw[nJ (B7 hje)];exact hdr'
     obtain⟨hsane,hkeep⟩:=hk1.repl hβ2 hd1 hd2
     refine rZ hr (hK _ _ S β2 uD xL ?_ (BL2.repl_or hβ2 hc.rel.sane).2)
     rw[ho,tG hd,zP (x:=.tmp j) hVj]
     exact hk1.finish (fun _ _=>rfl) (hc.dead.up hjN) (fun _ _=>rfl) hd hsane (fun b hb=>⟨hb,rfl⟩) (fun i s b hi ha hb=>⟨hkeep i s b hi ha hb,rfl⟩) ⟨cc,by simpa[wL] using hvr,by simp[upd]⟩
    ·cases hdat
   ·split at hk
    ·rename_i d' us' ht
     simp only[Aa] at hk;subst hk
     rw[← hx] at ht
     exact tk ht ho
    ·cases hk
  ·cases hk
 ·split at hk
  ·rename_i d' us' ht
   obtain⟨dd,ho,rfl⟩:=xA hk
   exact tk ht ho
  ·cases hk
end
end Go.Rf

end
section
namespace Go.Rf
set_option linter.unusedSectionVars false
variable [T:Laid]
section
variable {P:Program} {H:Nat→Option (List Value)} {N:Nat} {g g' σ:yL} {V V':Nat→Option Value} {w w':World} {S S':Nat→Prop} {β β':Key→Option Nat} {a:Act} {o:Oper}
variable {E:Env} {gv:yL} {us:List Up}
theorem A4E {k:Nat} {z:List Value→Bool} (hz:∀ c,z c=true→c.length=k):∀ {n:Nat} {c:List Value},lS.zarr k z n c=true→c.length=n * k∧∀ i,i < n→z (win c (i * k) k)=true
 | 0,c,h=>by
  simp only[lS.zarr,Bi] at h;subst h
  exact⟨by simp,fun i hi=>by omega⟩
 | n+1,c,h=>by
  simp only[lS.zarr,Ad] at h
  obtain⟨h1,h2⟩:=h
  obtain⟨h3,h4⟩:=A4E hz h2
  have h5:=hz _ h1
  simp only[BY,Bj] at h3 h5
  have hlen:c.length=(n+1) * k:=by rw[Ah];omega
  refine⟨hlen,fun i hi=>?_⟩
  cases i with
  | zero=>simpa[win] using h1
  | succ i=>
   have:=h4 i (by omega)
   unfold win at this ⊢
   rw[BF] at this
   rw[Ah,Av,Nat.add_comm (i * k) k];exact this
theorem aF {t:Ty} {c:List Value} (ht:t.agg=false) (h:lS t c=true):∃ v,c=[v]∧Bi2 t v=true:=by
 cases t<;>simp[Ty.agg] at ht<;>(cases c with
  | nil=>simp[lS] at h
  | cons v l=>cases l with
   | nil=>exact⟨v,rfl,by simpa[lS] using h⟩
   | cons _ _=>simp[lS] at h)
theorem mA (deep:Bool):∀ {τ:Ty} {c:List Value} {k:Key},lS τ c=true→zX S β H w k τ (Fl.nw deep τ) τ.dflt c
 | .int i,c,k,h=>by
  obtain⟨v,hv0,hz⟩:=aF rfl h
  replace h:=hz;clear hz;subst hv0
  cases v<;>first|(exfalso;simp[Bi2] at h;done)| skip
  simp only[Bi2,Ad,Ar] at h
  obtain⟨rfl,rfl⟩:=h
  cases deep<;>simp[zX,Fl.nw,Fl.full,Fl.half,Fl.base,lV,Fl.pins,Rd,Ty.dflt]
 | .bool,c,k,h=>by
  obtain⟨v,hv0,hz⟩:=aF rfl h
  replace h:=hz;clear hz;subst hv0
  cases v<;>first|(exfalso;simp[Bi2] at h;done)| skip
  simp only[Bi2,A8] at h
  subst h
  cases deep<;>simp[zX,Fl.nw,Fl.full,Fl.half,Fl.base,lV,Fl.pins,Rd,Ty.dflt]
 | .str,c,k,h=>by
  obtain⟨v,hv0,hz⟩:=aF rfl h
  replace h:=hz;clear hz;subst hv0
  cases v<;>first|(exfalso;simp[Bi2] at h;done)| skip
  simp only[Bi2,Bi] at h
  rename_i s
  have:s=⟨⟨[]⟩⟩:=by apply ByteArray.ext;apply AG.1;rw[h]
  subst this
  cases deep<;>simp[zX,Fl.nw,Fl.full,Fl.half,Fl.base,lV,Fl.pins,Rd,Ty.dflt]
 | .fn,c,k,h=>by
  obtain⟨v,hv0,hz⟩:=aF rfl h
  replace h:=hz;clear hz;subst hv0
  cases v<;>first|(exfalso;simp[Bi2] at h;done)| skip
  cases deep<;>simp[zX,Fl.nw,Fl.full,Fl.half,Fl.base,lV,Fl.pins,Rd,Ty.dflt,A6c]
 | .unit,c,k,h=>by
  simp only[lS,Bi] at h;subst h
  cases deep<;>simp[zX,Fl.nw,Fl.full,Fl.half,Fl.base,lV,Fl.pins,Rd]
 | .sl t,c,k,h=>by
  obtain⟨v,hv0,hz⟩:=aF rfl h
  replace h:=hz;clear hz;subst hv0
  have:v=.slice none 0 0:=by
   unfold Bi2 at h
   split at h<;>first|rfl|(rename_i e _;cases e)| (rename_i e;cases e)| (cases h)| skip
   all_goals simp_all
  subst this
  cases deep<;>(simp only[zX,Fl.nw,Fl.full,Fl.half,Fl.base,lV,Fl.pins,Ty.dflt];exact⟨by simp,none,0,rfl,by simp,.inl rfl⟩)
 | .ptr t,c,k,h=>by
  obtain⟨v,hv0,hz⟩:=aF rfl h
  replace h:=hz;clear hz;subst hv0
  cases deep<;>simp[zX,Fl.nw,Fl.full,Fl.half,Fl.base,lV,Fl.pins]
 | .arr n t,c,k,h=>by
  simp only[lS] at h
  obtain⟨h1,h2⟩:=A4E (fun c hc=>yC (mA deep (k:=[]) hc)) h
  have:Fl.nw deep (.arr n t)=.mkar (Fl.nw deep t):=by cases deep<;>rfl
  rw[this,AQ6]
  refine⟨by simp[Ty.dflt],h1,fun i y hy=>?_⟩
  have hy':(Bu n t.dflt)[i]?=some y:=hy
  rw[Be] at hy'
  split at hy'
  ·rename_i hi
   simp only[Aa] at hy';subst hy'
   exact mA deep (h2 i hi)
  ·cases hy'
 | .pair s u,c,k,h=>by
  simp only[lS,Ad] at h
  have:Fl.nw deep (.pair s u)=.mkpr (Fl.nw deep s) (Fl.nw deep u):=by cases deep<;>rfl
  rw[this,oT]
  exact⟨mA deep h.1,mA deep h.2⟩
structure Pushed (w w':World) (ob:Obj):Prop where
 heap:w'.heap=w.heap.push ob
 out:SameOut w w'
def As0 (β:Key→Option Nat) (k:Key) (b:Nat):Key→Option Nat:=fun k'=>if k'=k then some b else β k'
theorem qJ {ob:Obj} (hw:Pushed w w' ob) {b:Nat} (hb:b < w.heap.size):w'.heap[b]?=w.heap[b]?:=by
 rw[hw.heap,Br,As (by omega)]
theorem B2a {ob:Obj} (hw:Pushed w w' ob):w'.heap[w.heap.size]?=some ob:=by rw[hw.heap];simp
theorem A0d {ob:Obj} (hw:Pushed w w' ob):w'.heap.size=w.heap.size+1:=by rw[hw.heap];simp
theorem Sane.new {ob:Obj} (h:Sane w S β) (hw:Pushed w w' ob) (k:Key):Sane w' S (As0 β k w.heap.size) where
 tab:=h.tabs fun b hb=>⟨hb,qJ hw (h.liveS b hb)⟩
 inj k1 k2 b h1 h2:=by
  unfold As0 at h1 h2
  split at h1<;>split at h2
  ·rename_i e1 e2;rw[e1,e2]
  ·cases h1;have:=h.live _ _ h2;omega
  ·cases h2;have:=h.live _ _ h1;omega
  ·exact h.inj _ _ _ h1 h2
 sep k1 b h1 h2:=by
  unfold As0 at h1
  split at h1
  ·cases h1;have:=h.liveS _ h2;omega
  ·exact h.sep _ _ h1 h2
 live k1 b h1:=by
  rw[A0d hw]
  unfold As0 at h1
  split at h1
  ·cases h1;omega
  ·have:=h.live _ _ h1;omega
 liveS b hb:=by rw[A0d hw];have:=h.liveS b hb;omega
theorem Step.newB {ob:Obj} (hw:Pushed w w' ob) (k:Key):Step w S β w' S (As0 β k w.heap.size) where
 size:=by rw[A0d hw];omega
 old b hb _:=qJ hw hb
 new k1 b h1:=by
  unfold As0 at h1
  split at h1
  ·cases h1;exact .inr (Al _)
  ·exact .inl ⟨_,h1⟩
 keepS _ hb:=hb
 newS _ hb:=.inl hb
 out:=hw.out
theorem AN4.new {q:Bool} {cs:Array Value} {e:TypeId} {fz:Nat × Nat} (hw:Pushed w w' (.cells cs e fz)) (hf:fz=(0,0)∨(q=true∧cs.size≤fz.1)):AN4 q w' w.heap.size cs:=by
 refine⟨e,fz,B2a hw,fun o ho h=>?_,hf.elim .inr fun h=>.inl h.1⟩
 rcases hf with rfl|hf
 ·exact absurd h.2 (Nat.not_lt_zero _)
 ·exact absurd h.1 (by omega)
theorem Be9 {d:Nat} {v:SV} {val:Value} {ob:Obj} (hc:Ctx P H S β a w o g) (ho:o.dst=some d) (hr:(execOp a.eval o).run P w=.ok (.value val) w') (hw:Pushed w w' ob)
  (hn:mC H a.tmps.size (g.up (.put d v)) (upd (vals a) d val) w' S (As0 β [d] w.heap.size) d v):yY P H S β a w o (g.ups [.put d v]):=by
 intro K Q hK
 have hd:=wP hc.opIn ho
 refine rZ hr (hK _ _ S _ uD xL ?_ (Step.newB hw [d]))
 rw[ho,tG hd]
 exact hc.rel.finish (fun _ _=>rfl) hc.dead (fun _ _=>rfl) hd (hc.rel.sane.new hw [d]) (fun b hb=>⟨hb,qJ hw (hc.rel.sane.liveS b hb)⟩)
  (fun j s b hj _ hb=>⟨by unfold As0;rw[As (by simp[hj])];exact hb,qJ hw (hc.rel.sane.live _ b hb)⟩) hn
theorem Bd6 {t:TypeId} {τ:Ty} (h:E.tz t=some τ):E.ty t=some τ∧∃ z,(∀ w,(zeroValue t).run E.P w=.ok z w)∧lS τ z.cells.toList=true:=by
 unfold Env.tz at h
 split at h
 ·rename_i τ' ht
  split at h
  ·rename_i hz
   simp only[Aa] at h;subst h
   refine⟨ht,?_⟩
   unfold Env.zok at hz
   split at hz
   ·rename_i i hi
    split at hz
    ·rename_i v hv
     exact⟨v,fun w=>by unfold zeroValue;simp[sA hi,hv],hz⟩
    ·cases hz
   ·cases hz
  ·cases h
 ·cases h
theorem A6D {mv:Bool} {t:TypeId} (hc:Ctx E.P H S β a w o g) (hm:o.op=.alloc t)
  (hk:A2g E mv o t some=some us):yY E.P H S β a w o (g.ups us):=by
 unfold A2g at hk
 split at hk
 ·rename_i τ ht
  obtain⟨d,ho,rfl⟩:=xA hk
  obtain⟨hty,z,hz,hzc⟩:=Bd6 ht
  have hlen:=yC (mA (S:=S) (β:=β) (H:=H) (w:=w) mv (k:=[]) hzc)
  refine Be9 (w':={ w with heap:=w.heap.push (.cells z.cells t) }) (val:=.pointer (some ⟨w.heap.size,0,none⟩)) hc ho ?_ ⟨rfl,rfl,rfl,rfl⟩ ?_
  ·simp[execOp,hm,Instr.alloc,hz,newVar,newRow]
  ·refine⟨[.pointer (some ⟨w.heap.size,0,none⟩)],?_,by simp[upd,yK,Ty.agg]⟩
   simp only[zX,Fl.base]
   exact⟨by simp[lV,Fl.pins],w.heap.size,z.cells,rfl,by simp[As0],AN4.new ⟨rfl,rfl,rfl,rfl⟩ (.inl rfl),by simpa using hlen,mA mv hzc⟩
 ·cases hk
theorem BE1 {mv:Bool} {t:TypeId} {x:Operand} (hc:Ctx E.P H S β a w o g) (hs:Sub gv g) (hm:o.op=.box t x)
  (hk:B1r E gv mv o t x some=some us):yY E.P H S β a w o (g.ups us):=by
 unfold B1r at hk
 split at hk
 ·rename_i τ d us' ht hti
  split at hk
  ·rename_i hty
   subst hty
   obtain⟨dd,ho,rfl⟩:=xA hk
   obtain⟨ht',_⟩:=AF5 hs hti
   obtain⟨S1,β1,c,h1,h2,h3,h4⟩:=bX hc.rel ht' (n:=a.tmps.size) (hc.dead _ (Al _)) (Al _)
   have hwh:=Ar3 ht'
   have hd:=wP hc.opIn ho
   have hD:yW a.tmps.size (g.ups us'):=hc.dead.ups fun u hu=>hc.dead.lt (aC ht' u hu)
   obtain⟨cc,hvr,hVn⟩:=h1.dat bM
   have hcc:cc=c:=by
    simp only[upd,Az] at hVn
    exact (rH (Ap hVn) h4 (yC hvr)).symm
   subst hcc
   have hone:=A37 hwh hvr
   let w':World:={ w with heap:=w.heap.push (.cells (yK d.t cc).cells t) }
   have hw':Pushed w w' (.cells (yK d.t cc).cells t):=⟨rfl,rfl,rfl,rfl⟩
   have hr:(execOp a.eval o).run E.P w=.ok (.value (.pointer (some ⟨w.heap.size,0,none⟩))) w':=by
    simp[execOp,hm,Instr.box,zP h3,newVar,newRow,w']
   intro K Q hK
   have hk1:Rel H a.tmps.size ((upN (g.ups us') a.tmps.size d).up (.put a.tmps.size .dead)) (upd (vals a) a.tmps.size (yK d.t cc)) w S1 β1:=h1.kill fun _ _=>rfl
   have hsane:=(hk1.sane.rekey [a.tmps.size] [dd,0]).new hw' [dd]
   refine rZ hr (hK _ _ S1 _ uD xL ?_ (h2.trans ((Step.rekey [a.tmps.size] [dd,0]).trans (Step.newB hw' [dd]))))
   rw[ho,tG hd,xS]
   refine hk1.finish (fun i hi=>by rw[nJ (by omega),cX (by omega)]) hD (fun i hi=>by simp only[upd];rw[As (by omega)]) hd hsane (fun b hb=>⟨hb,qJ hw' (hk1.sane.liveS b hb)⟩)
    (fun j s b hj ha hb=>⟨?_,qJ hw' (hk1.sane.live _ b hb)⟩) ?_
   ·have hjn:j≠a.tmps.size:=fun e'=>by subst e';exact ha (by rw[tH])
    unfold As0
    rw[As (by simp[hj]),vX (by simp[pX,B7 hj]) (yQ hjn)];exact hb
   ·refine⟨[.pointer (some ⟨w.heap.size,0,none⟩)],?_,by simp[upd,yK,Ty.agg]⟩
    simp only[zX,Fl.base]
    refine⟨by simp[lV,Fl.pins],w.heap.size,(yK d.t cc).cells,rfl,by simp[As0],AN4.new hw' (.inl rfl),?_,?_⟩
    ·rw[AI6 h4 hone];simp[h4]
    ·rw[AI6 h4 hone]
     refine zS (fun b hb=>⟨hb,qJ hw' (hk1.sane.liveS b hb)⟩) (fun s b hb=>⟨?_,qJ hw' (hk1.sane.live _ b hb)⟩) hvr
     have:As0 (rekey β1 [a.tmps.size] [dd,0]) [dd] w.heap.size ([dd]++[0]++s)=rekey β1 [a.tmps.size] [dd,0] ([dd,0]++s):=by
      unfold As0;rw[As (by simp)];rfl
     rw[this,A1V];exact hb
  ·cases hk
 ·cases hk
end
end Go.Rf

end
section
namespace Go.Rf
set_option linter.unusedSectionVars false
variable [T:Laid]
section
variable {P:Program} {H:Nat→Option (List Value)} {N:Nat} {g g' σ:yL} {V V':Nat→Option Value} {w w':World} {S S':Nat→Prop} {β β':Key→Option Nat} {a:Act} {o:Oper}
variable {E:Env} {gv:yL} {us:List Up}
theorem AB2 {x:Operand} (hs:Sub gv g) (h:publish gv x (sv gv x)=some us):publish g x (sv g x)=some us∧Sub (gv.ups us) (g.ups us)∧∀ u ∈ us,(g u.slot).sv≠.dead:=by
 cases hv:sv gv x with
 | dat e=>
  rw[hs.sv hv (by simp)];rw[hv] at h
  refine⟨h,?_⟩
  simp only[publish] at h
  split at h
  ·simp only[Aa] at h;subst h;exact⟨hs,by simp⟩
  ·split at h
   ·split at h
    ·rename_i s
     simp only[Aa] at h;subst h
     have he:(gv s).sv=.dat e:=hv
     exact⟨hs.up (u:=.pub s _) (by simp[Up.slot,he]),by simp[Up.slot,hs.get he (by simp),he]⟩
    ·cases h
   ·cases h
 | als r p c s=>
  rw[hs.sv hv (by simp)];rw[hv] at h
  simp only[publish] at h ⊢
  split at h
  ·rename_i hok
   split at h
   ·rename_i e he
    have hr:=hs.get he (by simp)
    rw[Sub.okA hr,hok,hr,he]
    refine⟨h,?_⟩
    split at h
    ·split at h
     ·simp only[Aa] at h;subst h;exact⟨hs,by simp⟩
     ·split at h
      ·simp only[Aa] at h;subst h
       exact⟨hs.up (u:=.pub r _) (by simp[Up.slot,he]),by simp[Up.slot,hr,he]⟩
      ·cases h
    ·cases h
   ·cases h
  ·cases h
 | clo f rs=>
  rw[hs.sv hv (by simp)];rw[hv] at h
  cases rs with
  | nil=>refine⟨h,?_⟩;simp only[publish,Aa] at h;subst h;exact⟨hs,by simp⟩
  | cons _ _=>simp[publish] at h
 | _=>rw[hv] at h;simp[publish] at h
theorem AM7 {x:Operand} {d:Dat} (h:Rel H N g V w S β) (hp:publish g x (sv g x)=some us) (hd:xJ g (sv g x)=some d):
  ∃ S1 β1 c,Rel H N (g.ups us) V w S1 β1∧Step w S β w S1 β1∧evl V x=some (yK d.t c)∧Rd S1 w d.t d.x c:=by
 cases hv:sv g x with
 | dat e=>
  rw[hv] at hp hd
  simp only[xJ] at hd
  split at hd
  ·rename_i hw
   simp only[Aa] at hd;subst hd
   simp only[publish] at hp
   split at hp
   ·rename_i hf
    simp only[Aa] at hp;subst hp
    have hf:=uY hf
    rcases jK h hv with ⟨s,rfl,hs⟩| ⟨_,c,hc,hrd⟩
    ·obtain⟨c,hvr,hV⟩:=h.dat hs
     rw[hf,xD] at hvr
     exact⟨S,β,c,h,.refl,hV,hvr⟩
    ·exact⟨S,β,c,h,.refl,hc,hrd⟩
   ·split at hp
    ·rename_i s
     simp only[Aa] at hp;subst hp
     have he:(g s).sv=.dat e:=hv
     obtain⟨c,hvr,hV⟩:=h.dat he
     exact⟨_,_,c,h.publish (p:=[]) he rfl hw,.pub _ _ _,hV,A3q (p:=[]) (e:=e) (d:=e) rfl hw (by simpa[wL] using hvr)⟩
    ·cases hp
  ·cases hd
 | als r p c s=>
  rw[hv] at hp hd
  obtain⟨i,rfl,hi⟩:=rD hv (by simp) (by simp) (by simp)
  simp only[xJ] at hd
  split at hd
  ·rename_i hok
   split at hd
   ·rename_i e0 hat
    split at hd
    ·rename_i hw
     simp only[Aa] at hd;subst hd
     obtain⟨e,he,hg⟩:=dO hat
     obtain⟨_,hb,hnd,cr,L,c',k1,k2,k3,k4,k5,k6,k7⟩:=h.als hi hok he hg
     simp only[publish,hok,Az,he,hg] at hp
     split at hp
     ·rename_i hf
      simp only[Aa] at hp;subst hp
      rw[uY hf,xD] at k6
      exact⟨S,β,c',h,.refl,k7,k6⟩
     ·simp only[Aa] at hp;subst hp
      exact⟨_,_,c',h.publish he hg hw,.pub _ _ _,k7,A3q hg hw k6⟩
    ·cases hd
   ·cases hd
  ·cases hd
 | clo f rs=>
  rw[hv] at hp hd
  cases rs with
  | nil=>
   simp only[publish,Aa] at hp;subst hp
   obtain⟨c,hc,hrd⟩:=pG h (x:=x) (d:=d) (by rw[hv];exact hd)
   simp only[xJ,AG9,Bb,Aa] at hd
   subst hd
   refine⟨S,β,c,h,.refl,hc,?_⟩
   simp only[Rd,A6c,kX] at hrd ⊢
   exact hrd
  | cons _ _=>simp[publish] at hp
 | _=>rw[hv] at hp;simp[publish] at hp
theorem AV8 {x:Option Operand} {dflt:Nat} {κ:Nat→Option (List Up)} (hc:Ctx P H S β a w o g) (hs:Sub gv g) (h:Ak2 (x.map (sv gv)) dflt κ=some us):
  ∃ n,κ n=some us∧((x=none∧n=dflt)∨∃ op k i,x=some op∧a.eval op=.int k i∧0≤i∧n=i.toNat):=by
 cases x with
 | none=>exact⟨dflt,h,.inl ⟨rfl,rfl⟩⟩
 | some op=>
  simp only[Bb] at h
  unfold Ak2 at h
  split at h
  ·rename_i e;cases e
  ·rename_i k i e
   simp only[Aa] at e
   simp only[Aj] at h
   split at h
   ·rename_i h1
    simp only[zA,Ar] at h1
    exact⟨_,h,.inr ⟨op,k,i,rfl,zP (AC5 hc.rel (hs.sv e (by simp)) cC),h1,rfl⟩⟩
   ·cases h
  ·cases h
theorem AU9 {isSl:Bool} {len cap l h:Nat} {lo hi:Option Operand} {ρ:Operand→Value} (hh:(hi=none∧h=len)∨∃ op k i,hi=some op∧ρ op=.int k i∧0≤i∧h=i.toNat)
  (hl:(lo=none∧l=0)∨∃ op k i,lo=some op∧ρ op=.int k i∧0≤i∧l=i.toNat) (h1:h≤cap) (h2:l≤h):
  (BU isSl len cap (lo.map ρ) (hi.map ρ) none).run P w=.ok (l,h,cap) w:=by
 have b:∀ (k:IntKind) (i:Int) (y:Nat) (c:BoundsCode),0≤i→i.toNat≤y→(BZ (.int k i) y c).run P w=.ok i.toNat w:=fun k i y c hi hy=>by
  simp only[BZ,asIntOf,Sem.run_bind,Sem.run_pure,Result.andThen_ok]
  rw[AE ⟨hi,by omega⟩,Sem.run_pure]
 unfold BU
 rcases hh with ⟨rfl,rfl⟩| ⟨op,k,i,rfl,ho,hi,rfl⟩<;>rcases hl with ⟨rfl,rfl⟩| ⟨op',k',i',rfl,ho',hi',rfl⟩
 ·simp
 ·simp[ho',b k' i' _ _ hi' h2]
 ·simp[ho,b k i _ _ hi h1]
 ·simp[ho,ho',b k i _ _ hi h1,b k' i' _ _ hi' h2]
theorem A3M {ρ:Operand→Value} {t:TypeId} {x:Operand} {lo hi:Option Operand} {val:Value} {u:TypeDesc} (ho:o.op=.slice t x lo hi none) (hu:P.underlying t=some u) (hn:∀ n e,u≠.array n e)
  (hr:(Cc t (ρ x) (lo.map ρ) (hi.map ρ) none).run P w=.ok val w):(execOp ρ o).run P w=.ok (.value val) w:=by
 have:(Cm t (ρ x) (lo.map ρ) (hi.map ρ) none).run P w=.ok val w:=by
  unfold Cm
  simp only[Sem.run_bind,zE hu,Result.andThen_ok]
  cases u<;>first|exact hr|exact absurd rfl (hn _ _)
 simp only[execOp,ho,Cf,Sem.run_bind,this,Result.andThen_ok,Sem.run_pure]
theorem Ba3 {α:Type} {s:List α} {l h:Nat} (h1:h≤s.length) (h2:l≤h):(BJ l (BK h s)).length=h - l:=by simp;omega
theorem BV0 {α:Type} {l h:Nat}:BJ l (BK h ([]:List α))=[]:=by simp
theorem BT6 {α:Type} {s:List α} {l h i:Nat} {y:α} (hy:nth (BJ l (BK h s)) i=some y):nth s (l+i)=some y:=by
 unfold nth at hy ⊢
 rw[BO,List.getElem?_take] at hy
 split at hy
 ·exact hy
 ·cases hy
theorem A2q {s:List UInt8} {l h:Nat}:(⟨⟨s⟩⟩:ByteArray).extract l h=⟨⟨BJ l (BK h s)⟩⟩:=by
 have:=ByteArray.extract_mk s l h
 rw[Ch];exact this
theorem A5a {t:TypeId} {x:Operand} {lo hi:Option Operand} (hc:Ctx E.P H S β a w o g) (hs:Sub gv g) (hm:o.op=.slice t x lo hi none)
  (hk:A2h gv o (E.ty t) x lo hi some=some us):yY E.P H S β a w o (g.ups us):=by
 unfold A2h at hk
 split at hk
 ·rename_i s f ht hd
  obtain⟨h,hk,hh⟩:=AV8 hc hs hk
  obtain⟨l,hk,hl⟩:=AV8 hc hs hk
  simp only[Aj] at hk
  split at hk
  ·rename_i h1
   split at hk
   ·rename_i h2
    simp only[BP] at h1 h2
    obtain⟨c,hcv,hr⟩:=pG hc.rel (rL hs hd)
    simp only[Rd] at hr;subst hr
    have ex:a.eval x=.string ⟨⟨s⟩⟩:=zP hcv
    have hu:=Am6 ht
    refine DV.str.look hc.rel hc.dead hc.opIn hk (A3M hm hu (by simp) ?_)
    rw[ex]
    have hb:=AU9 (P:=E.P) (w:=w) (isSl:=false) (len:=(⟨⟨s⟩⟩:ByteArray).size) (cap:=(⟨⟨s⟩⟩:ByteArray).size) hh hl h1 h2
    unfold Cc
    simp only[Sem.run_bind,zE hu,Result.andThen_ok,Option.isSome_none,Bool.false_eq_true,if_false,hb,Sem.run_pure]
    congr 2
    exact A2q
   ·cases hk
  ·cases hk
 ·rename_i τ τ' s f ht hd
  split at hk
  ·rename_i e;subst e
   split at hk
   ·rename_i us' hp
    obtain⟨h,hk,hh⟩:=AV8 hc hs hk
    obtain⟨l,hk,hl⟩:=AV8 hc hs hk
    simp only[Aj] at hk
    split at hk
    ·rename_i h1
     split at hk
     ·rename_i h2
      simp only[BP] at h1 h2
      obtain⟨dd,ho,rfl⟩:=xA hk
      obtain⟨hp',_,halive⟩:=AB2 hs hp
      obtain⟨S1,β1,c,hrel,hst,hcv,hr⟩:=AM7 hc.rel hp' (rL hs hd)
      simp only[Rd] at hr
      obtain⟨ad,cap,rfl,hlc,hr⟩:=hr
      have ex:a.eval x=.slice ad (Ag s) cap:=zP hcv
      obtain⟨e,he,h7⟩:=Ai3 ht
      have hb:=AU9 (P:=E.P) (w:=w) (isSl:=true) (len:=Ag s) (cap:=cap) hh hl (by omega) h2
      have hrun:(execOp a.eval o).run E.P w=.ok (.value (.slice (if cap=l then ad else ad.map (·.add (l * τ.size))) (h - l) (cap - l))) w:=by
       refine A3M hm he (by simp) ?_
       rw[ex]
       unfold Cc
       simp only[Sem.run_bind,zE he,Result.andThen_ok,hb,rK h7,Sem.run_pure]
      refine A2t (g:=g) (g1:=g.ups us') (V1:=vals a) ho (wP hc.opIn ho) hrel hst (fun _ _=>rfl) (hc.dead.ups fun u hu=>hc.dead.lt (halive u hu)) (fun _ _=>rfl) hrun ?_
      have hlen:Ag (BJ l (BK h s))=h - l:=Ba3 h1 h2
      refine A0f (c:=[.slice (if cap=l then ad else ad.map (·.add (l * τ.size))) (h - l) (cap - l)]) ?_ rfl
      simp only[Rd]
      refine⟨_,_,by rw[hlen],by rw[hlen];omega,?_⟩
      rcases hr with hr|⟨b,oo,cs,rfl,hS,hB,hz,hr⟩
      ·left;rw[hr];exact BV0
      ·by_cases hcl:cap=l
       ·left
        have:h=l:=by omega
        apply Am.1;omega
       ·right
        refine⟨b,oo+l * τ.size,cs,by rw[As hcl];simp[gY],hS,hB,?_,fun i y hy=>?_⟩
        ·rw[hlen]
         have:(h - l) * τ.size+l * τ.size≤Ag s * τ.size:=by rw[← Ah];exact Ac _ (by omega)
         omega
        ·have hy':nth s (l+i)=some y:=BT6 hy
         have:=hr (l+i) y hy'
         rw[Ah,← Nat.add_assoc] at this
         exact this
     ·cases hk
    ·cases hk
   ·cases hk
  ·cases hk
 ·cases hk
theorem BW3:∀ {i:Nat} {t:Ty} {f:Fl} {x:t.D} {c:List Value} {k:Key} {e:Dat},zX S β H w k t f x c→xQ (yM i) t f x=some e →
  ∃ ci,(Bu6 t c)[i]?=some (yK e.t ci)∧zX S β H w (k++wL (yM i)) e.t e.f e.x ci
 | 0,.pair s u,f,x,c,k,e,hv,hg=>by
  simp only[yM,xQ,Aa] at hg;subst hg
  exact⟨_,rfl,by simpa[yM,wL] using (uG hv).1⟩
 | i+1,.pair s u,f,x,c,k,e,hv,hg=>by
  simp only[yM,xQ] at hg
  obtain⟨ci,h1,h2⟩:=BW3 (uG hv).2 hg
  exact⟨ci,by simpa[Bu6] using h1,by simpa[yM,wL] using h2⟩
theorem Au7:∀ {i:Nat},AO1 (yM i)=false
 | 0=>rfl
 | i+1=>by simp only[yM,AO1,PS.isElm,Ck];exact Au7
theorem A2B {x:Operand} {i:Nat} (hc:Ctx P H S β a w o g) (hs:Sub gv g) (hm:o.op=.extract x i)
  (hk:AW7 gv o x i some=some us):yY P H S β a w o (g.ups us):=by
 unfold AW7 at hk
 split at hk
 ·rename_i s
  split at hk
  ·rename_i d hd
   have hsub:=hs.get hd (by simp)
   have hd':(g s).sv=.tup d:=by rw[hsub];exact hd
   have hss:=hc.rel.slots s
   rw[hd'] at hss
   obtain⟨c,hv,hV⟩:=hss
   split at hk
   ·rename_i e hg
    obtain⟨ci,h1,h2⟩:=BW3 hv hg
    have ex:a.eval (.tmp s)=Bk2 d.t c:=zP (x:=.tmp s) hV
    have hr:(execOp a.eval o).run P w=.ok (.value (yK e.t ci)) w:=by
     have h1':(Bu6 d.t c).toArray[i]?=some (yK e.t ci):=by simpa using h1
     simp only[execOp,hm,ex,Bk2,Instr.extract,h1',Sem.run_bind,Sem.run_pure,Result.andThen_ok]
    split at hk
    ·rename_i hf
     have hf:=uY hf
     rw[hf,xD] at h2
     exact DV.look ⟨hf,ci,h2,rfl⟩ hc.rel hc.dead hc.opIn hk hr
    ·split at hk
     ·rename_i hw
      obtain⟨dd,ho,rfl⟩:=xA hk
      have hN:=hc.dead a.tmps.size (Al _)
      have hsN:=hc.dead.lt (show (g s).sv≠.dead by rw[hd'];simp)
      have hstep:Rel H a.tmps.size (g.up (.put s (.tup ⟨d.t,d.x,aL (yM i) d.f .gone⟩))) (vals a) w S (rekey β (s :: wL (yM i)) [a.tmps.size]):=by
       refine hc.rel.put (hc.rel.sane.rekey _ _) (fun b hb=>⟨hb,rfl⟩) (fun j k b hj ha hb=>⟨?_,rfl⟩) (fun _ _=>rfl) ?_
       ·have hjn:j≠a.tmps.size:=fun e'=>ha (e' ▸ hN)
        rw[vX (yQ hjn) (yQ hj)];exact hb
       ·refine⟨c,kE (fun b hb=>⟨hb,rfl⟩) Au7 hg (AF9 hw) (fun k b hk hb=>⟨?_,rfl⟩) hv,hV⟩
        simp only[A5,Bc] at hb ⊢
        rw[vX (yQ (by omega)) (Ar9 hk)];exact hb
      have hhand:=hstep.hand (n:=a.tmps.size) (d:=e) (c:=ci) (lI (by simpa using h2))
      intro K Q hK
      have hdd:=wP hc.opIn ho
      refine rZ hr (hK _ _ S _ uD xL ?_ ((Step.rekey (s :: wL (yM i)) [a.tmps.size]).trans (Step.rekey [a.tmps.size] [dd])))
      rw[ho,tG hdd]
      exact hhand.land bM (Al _) (by simp[upd]) (fun i hi=>cX (by omega)) (hc.dead.up hsN) (fun i hi=>by simp only[upd];rw[As (by omega)]) hdd
     ·cases hk
   ·cases hk
  ·cases hk
 ·cases hk
end
end Go.Rf

end
section
namespace Go.Rf
set_option linter.unusedSectionVars false
variable [T:Laid]
section
variable {P:Program} {H:Nat→Option (List Value)} {N:Nat} {g g' σ:yL} {V V':Nat→Option Value} {w w':World} {S S':Nat→Prop} {β β':Key→Option Nat} {a:Act} {o:Oper}
variable {E:Env} {gv:yL} {us:List Up}
def cK (z:Array Value) (n:Nat):Array Value:=(BG n).map fun i=>z[i % z.size]!
theorem aJ {z:Array Value} {n:Nat}:(cK z n).size=n:=by simp[cK]
theorem A5G {z:Array Value} {m i:Nat} (hi:i < m):win (cK z (m * z.size)).toList (i * z.size) z.size=z.toList:=by
 rcases BQ z.size with e|e
 ·have:z=#[]:=Array.size_eq_zero_iff.1 e
  subst this;simp[win]
 ·have hle:(i+1) * z.size≤m * z.size:=Ac _ hi
  rw[Ah,Av] at hle
  apply AC
  intro j
  rw[tK]
  by_cases hj:j < z.size
  ·rw[AE hj]
   have h1:i * z.size+j < (cK z (m * z.size)).size:=by rw[aJ];omega
   rw[Bh,Bx h1]
   simp only[cK,Array.getElem_map,Array.getElem_range]
   have:(i * z.size+j) % z.size=j:=by rw[Nat.mul_comm,Nat.mul_add_mod,Nat.mod_eq_of_lt hj]
   rw[this,Bh,Bx hj,getElem!_pos z j hj]
  ·rw[As hj];simp;omega
structure SlOK (E:Env) (t e:TypeId) (τ:Ty) (z:Value):Prop where
 und:E.P.underlying t=some (.slice e)
 elem:tyN E.P 7 e=some τ
 zero:∀ w,(zeroValue e).run E.P w=.ok z w
 cells:lS τ z.cells.toList=true
 bytes:∃ i,E.P.info? e=some i∧i.bytes≤128
theorem A9O {t:TypeId} {τ':Ty} (h:E.sl t=some τ'):∃ τ e z,τ'=.sl τ∧SlOK E t e τ z:=by
 unfold Env.sl at h
 split at h
 ·rename_i τ e ht hu
  split at h
  ·rename_i hz
   simp only[Aa] at h
   simp only[Ad] at hz
   obtain⟨hz,hb⟩:=hz
   obtain⟨e',he',h7⟩:=Ai3 ht
   rw[hu] at he'
   simp only[Aa,TypeDesc.slice.injEq] at he'
   subst he'
   unfold Env.zok at hz
   split at hz
   ·rename_i i hi
    split at hz
    ·rename_i v hv
     refine⟨τ,e,v,h.symm,hu,h7,fun w=>by unfold zeroValue;simp[sA hi,hv],hz,i,hi,?_⟩
     unfold Env.small at hb
     rw[hi] at hb
     simpa[BP] using hb
    ·cases hz
   ·cases hz
  ·cases h
 ·cases h
theorem SlOK.size {t e:TypeId} {τ:Ty} {z:Value} (h:SlOK E t e τ z):z.cells.size=τ.size:=by
 have:=yC (mA (S:=fun _=>False) (β:=fun _=>none) (H:=fun _=>none) (w:=default) false (k:=[]) h.cells)
 simpa using this
theorem AV9 {n:Int} (h0:0≤n) (h1:n≤1099511627776):IntKind.i64.wrap n=n:=by
 simp only[IntKind.wrap,IntKind.bits,IntKind.signed]
 have:n % (2 ^ 64:Int)=n:=Int.emod_eq_of_lt h0 (by omega)
 simp only[this]
 simp
 intro h
 omega
theorem A59 {τ:Ty} {z:Value} {k:Key} {mv:Bool} {m:Nat} (hz:lS τ z.cells.toList=true) (hs:z.cells.size=τ.size) {i:Nat} (hi:i < m):
  zX S β H w k τ (Fl.nw mv τ) τ.dflt (win (cK z.cells (m * τ.size)).toList (i * τ.size) τ.size):=by
 rw[← hs,A5G hi];exact mA mv hz
theorem A4e {t e:TypeId} {τ:Ty} {z:Value} {n m:Int} (h:SlOK E t e τ z) (h0:zA n=true) (h1:leI n m=true) (h2:yI m.toNat=true):
  (Cg t (.int .i64 n) (.int .i64 m)).run E.P w=.ok (.slice (some ⟨w.heap.size,0,none⟩) n.toNat m.toNat) { w with heap:=w.heap.push (.cells (cK z.cells (m.toNat * τ.size)) e) }:=by
 simp only[zA,leI,Ar] at h0 h1
 have h2:=Ah7 h2
 obtain⟨i,hi,hb⟩:=h.bytes
 have wn:IntKind.i64.wrap n=n:=AV9 h0 (by omega)
 have wm:IntKind.i64.wrap m=m:=AV9 (by omega) (by omega)
 have hsz:(sizeOf e).run E.P w=.ok τ.size w:=rK h.elem
 have hmul:(i.bytes:Int) * m≤2 ^ 48:=by
  have:(i.bytes:Int) * m≤128 * 1099511627776:=Int.mul_le_mul (by omega) (by omega) (by omega) (by omega)
  omega
 unfold Cg
 simp only[Sem.run_bind,zE h.und,Result.andThen_ok,asInt,asIntOf,Sem.run_pure,sA hi,wn,wm]
 have hc:¬ ((((decide (m < 0)|| decide ((i.bytes:Int) * m > 2 ^ 48))|| decide (n < 0))|| decide (n > m))=true):=by
  simp only[Ba,Ar]
  omega
 rw[As hc]
 by_cases hn:m.toNat * τ.size=0
 ·have e0:BG 0=#[]:=rfl
  simp[run_askRoom,hsz,hn,newRow,cK,e0]
 ·simp[run_askRoom,hsz,hn,newRow,cK,h.zero]
theorem Az2 {mv:Bool} {t:TypeId} {l c:Operand} (hc:Ctx E.P H S β a w o g) (hs:Sub gv g) (hm:o.op=.makeSlice t l c)
  (hk:bZ E gv mv o t l c some=some us):yY E.P H S β a w o (g.ups us):=by
 unfold bZ at hk
 split at hk
 ·rename_i τ n m ht hl hcap
  simp only[Aj] at hk
  split at hk
  ·rename_i h0
   split at hk
   ·rename_i h1
    split at hk
    ·rename_i h2
     obtain⟨d,ho,rfl⟩:=xA hk
     obtain⟨τ2,e,z,heq,hok⟩:=A9O ht
     simp only[Ty.sl.injEq] at heq
     subst heq
     have el:=zP (AC5 hc.rel (hs.sv hl (by simp)) cC)
     have ec:=zP (AC5 hc.rel (hs.sv hcap (by simp)) cC)
     have hrun:=A4e (w:=w) hok h0 h1 h2
     have h01:n.toNat≤m.toNat:=by simp only[leI,Ar] at h1;omega
     refine Be9 (w':={ w with heap:=w.heap.push (.cells (cK z.cells (A0 m * τ.size)) e) }) (val:=.slice (some ⟨w.heap.size,0,none⟩) (A0 n) (A0 m)) hc ho ?_ ⟨rfl,rfl,rfl,rfl⟩ ?_
     ·simp only[execOp,hm,el,ec,Sem.run_bind]
      exact AX (fun r:Result Value=>Result.andThen r fun v w'=>Result.ok (Next.value v) w') hrun
     ·refine⟨[.slice (some ⟨w.heap.size,0,none⟩) (A0 n) (A0 m)],?_,by simp[upd,yK,Ty.agg]⟩
      simp only[zX,Fl.base]
      refine⟨by simp[lV,Fl.pins],some ⟨w.heap.size,0,none⟩,A0 m,by rw[AJ],by rw[AJ];exact h01,.inr ⟨w.heap.size,0,_,rfl,by simp[As0],AN4.new ⟨rfl,rfl,rfl,rfl⟩ (.inl rfl),?_,fun i y hy=>?_⟩⟩
      ·rw[aJ];omega
      ·have hy':(Bu (A0 n) τ.dflt)[i]?=some y:=hy
       rw[Be] at hy'
       split at hy'
       ·rename_i hi
        simp only[Aa] at hy';subst hy'
        simp only[A2]
        exact A59 hok.cells hok.size (by omega)
       ·cases hy'
    ·cases hk
   ·cases hk
  ·cases hk
 ·cases hk
theorem BS1 {α γ:Type} {f:α→γ} {l:List α} {i:Nat} {y:γ} (h:nth (l.map f) i=some y):∃ b,l[i]?=some b∧y=f b:=by
 unfold nth at h
 rw[AD,Ab] at h
 obtain⟨b,h1,h2⟩:=h
 exact⟨b,h1,h2.symm⟩
theorem A3r {xd:List UInt8} {e:TypeId} {d cap:Nat} (hcap0:cap=grownCap w xd.length 0 e):
  zX S (As0 β [d] w.heap.size) H (w.drew.alloc (.cells (bytesRow ⟨⟨xd⟩⟩ cap) e ((bytesRow ⟨⟨xd⟩⟩ cap).size,(bytesRow ⟨⟨xd⟩⟩ cap).size+1))) [d] (.sl (.int .u8)) (.own .sh) (Bv (fun b:UInt8=>(b.toNat:Int)) xd)
   [.slice (some ⟨w.heap.size,0,none⟩) (⟨⟨xd⟩⟩:ByteArray).size cap]:=by
 have hcap:xd.length≤cap:=by rw[hcap0];exact grownCap_ge w _ 0 e
 have hlen:(Bv (fun b:UInt8=>(b.toNat:Int)) xd).length=(⟨⟨xd⟩⟩:ByteArray).size:=by rw[AT];rfl
 have hsz:(bytesRow ⟨⟨xd⟩⟩ cap).size=cap:=by
  simp only[bytesRow,Bz,Array.size_map,Array.size_replicate]
  have h3:(⟨⟨xd⟩⟩:ByteArray).data.size=xd.length:=rfl
  have h2:(⟨⟨xd⟩⟩:ByteArray).size=xd.length:=rfl
  rw[h3,h2]
  omega
 simp only[zX,Fl.base]
 refine⟨by simp[lV,Fl.pins],some ⟨w.heap.size,0,none⟩,cap,AX (fun n=>[Value.slice (some ⟨w.heap.size,0,none⟩) n cap]) hlen.symm,Nat.le_trans (BV hlen) hcap,.inr ⟨w.heap.size,0,_,rfl,by simp[As0],AN4.new ⟨rfl,rfl,rfl,rfl⟩ (.inr ⟨rfl,Al _⟩),?_,fun i y hy=>?_⟩⟩
 ·rw[hsz];simp[Ty.size]
 ·obtain⟨b,hb1,hb2⟩:=BS1 hy
  subst hb2
  have hi:i < xd.length:=(Ae.1 hb1).1
  have hbr:=bytesRow_at ⟨⟨xd⟩⟩ cap i hi
  refine⟨by simp[lV,Fl.pins],?_⟩
  simp only[Rd,Ty.size,Cd,A2]
  apply AC
  intro j
  rw[tK]
  cases j with
  | zero=>
   rw[AE (by decide),Ay,Bh,hbr]
   have:b=xd[i]:=(Ae.1 hb1).2.symm
   subst this
   rfl
  | succ j=>rw[As (by omega)];simp
theorem A2W {s t:TypeId} {x:Operand} (hc:Ctx E.P H S β a w o g) (hs:Sub gv g) (ho:o.op=.convert s t x) (h1:E.ty s=some .str) (h2:E.ty t=some (.sl (.int .u8)))
  (hk:A2K (E.ty s) (E.ty t) (xJ gv (sv gv x)) (fun d=>lD o [] (.dat d) some)=some us):yY E.P H S β a w o (g.ups us):=by
 cases hd:xJ gv (sv gv x) with
 | none=>rw[hd,h1,h2] at hk;simp[A2K] at hk
 | some d=>
  obtain⟨c,hcv,hr⟩:=pG hc.rel (rL hs hd)
  have ex:=zP hcv
  rw[hd,h1,h2] at hk
  obtain⟨td,xd,fd⟩:=d
  cases td<;>simp only[A2K,reduceCtorEq] at hk
  obtain⟨dd,hdst,rfl⟩:=xA hk
  simp only[Rd] at hr;subst hr
  have hx:a.eval x=.string ⟨⟨xd⟩⟩:=ex
  obtain⟨e,hse,he⟩:=Ai3 h2
  have hrun:=run_bytes_of_string (P:=E.P) w s t e ⟨⟨xd⟩⟩ (Am6 h1) hse (BU6 he)
  refine Be9 (ob:=.cells (bytesRow ⟨⟨xd⟩⟩ (grownCap w (⟨⟨xd⟩⟩:ByteArray).size 0 e)) e ((bytesRow ⟨⟨xd⟩⟩ (grownCap w (⟨⟨xd⟩⟩:ByteArray).size 0 e)).size,(bytesRow ⟨⟨xd⟩⟩ (grownCap w (⟨⟨xd⟩⟩:ByteArray).size 0 e)).size+1))
   (w':=w.drew.alloc (.cells (bytesRow ⟨⟨xd⟩⟩ (grownCap w (⟨⟨xd⟩⟩:ByteArray).size 0 e)) e ((bytesRow ⟨⟨xd⟩⟩ (grownCap w (⟨⟨xd⟩⟩:ByteArray).size 0 e)).size,(bytesRow ⟨⟨xd⟩⟩ (grownCap w (⟨⟨xd⟩⟩:ByteArray).size 0 e)).size+1)))
   (val:=.slice (some ⟨w.heap.size,0,none⟩) (⟨⟨xd⟩⟩:ByteArray).size (grownCap w (⟨⟨xd⟩⟩:ByteArray).size 0 e)) hc hdst ?_ ⟨rfl,rfl,rfl,rfl⟩ ?_
  ·simp only[execOp,ho,hx,Sem.run_bind]
   exact AX (fun r:Result Value=>Result.andThen r fun v w'=>Result.ok (Next.value v) w') hrun
  ·exact⟨_,A3r rfl,by simp[upd,yK,Ty.agg]⟩
end
end Go.Rf

end
section
namespace Go.Rf
set_option linter.unusedSectionVars false
variable [T:Laid]
section
variable {P:Program} {H:Nat→Option (List Value)} {N:Nat} {g g' σ:yL} {V V':Nat→Option Value} {w w':World} {S S':Nat→Prop} {β β':Key→Option Nat} {a:Act} {o:Oper}
variable {E:Env} {gv:yL} {us:List Up}
theorem A1T {off:Nat}:∀ {vs:List Value} {k:Nat} {cells:Array Value},off+k+vs.length≤cells.size →
  ((vs.zipIdx k).foldl (fun (cs:Array Value) (x:Value × Nat)=>cs.setIfInBounds (off+x.2) x.1) cells).toList=dS cells.toList (off+k) vs
 | [],k,cells,_=>by simp[dS]
 | v :: vs,k,cells,h=>by
  simp only[B4] at h
  simp only[List.zipIdx_cons,AU]
  rw[A1T (by simp;omega)]
  apply AC
  intro j
  rw[qI (by simp;omega),qI (by simp;omega),Array.toList_setIfInBounds,AV]
  simp only[B4]
  by_cases h1:j < off+k
  ·rw[AE (by omega),As (by omega),AE h1]
  ·rw[As h1]
   by_cases h2:j=off+k
   ·subst h2
    rw[AE (by omega),AE rfl,AE (by simp;omega),AE (by omega)]
    simp
   ·have e:j - (off+k)=(j - (off+(k+1)))+1:=by omega
    rw[As (show ¬ j < off+(k+1) by omega),e,AB]
    by_cases h3:j < off+(k+1)+vs.length
    ·rw[AE h3,AE (show j < off+k+(vs.length+1) by omega)]
    ·rw[As h3,As (show ¬ off+k=j by omega),As (show ¬ j < off+k+(vs.length+1) by omega)]
def B2t (place:Nat→Option (Nat × Nat)) (i j:Nat):Prop:=∀ o s o' s',place i=some (o,s)→place j=some (o',s')→o+s≤o'∨o'+s'≤o
theorem A7J {place:Nat→Option (Nat × Nat)}:∀ {ps:List (Nat × Value)} {cells:Array Value},(∀ p ∈ ps,∃ off,place p.1=some (off,p.2.cells.size)∧off+p.2.cells.size≤cells.size)→ps.Pairwise (fun p q=>B2t place p.1 q.1) →
  ∃ r,BR place cells ps=some r∧r.size=cells.size∧(∀ p ∈ ps,∀ off s,place p.1=some (off,s)→win r.toList off s=p.2.cells.toList) ∧
   (∀ o m,(∀ p ∈ ps,∀ off s,place p.1=some (off,s)→o+m≤off∨off+s≤o)→win r.toList o m=win cells.toList o m)
 | [],cells,_,_=>⟨cells,rfl,rfl,by simp,fun _ _ _=>rfl⟩
 | (i,v) :: ps,cells,h,hp=>by
  obtain⟨off,h1,h2⟩:=h (i,v) (by simp)
  simp only at h1 h2
  rw[BS] at hp
  let c1:=v.cells.zipIdx.foldl (fun (cs:Array Value) (x:Value × Nat)=>cs.setIfInBounds (off+x.2) x.1) cells
  have hc1:c1.toList=dS cells.toList off v.cells.toList:=by
   have:=A1T (off:=off) (vs:=v.cells.toList) (k:=0) (cells:=cells) (by simpa using h2)
   rw[Ay] at this
   rw[← this]
   show (v.cells.zipIdx.foldl _ cells).toList=_
   rw[← Bw,Array.toList_zipIdx]
  have hs1:c1.size=cells.size:=by
   have:=AX Ag hc1
   rw[oG (by simpa using h2)] at this
   simpa using this
  obtain⟨r,k1,k2,k3,k4⟩:=A7J (place:=place) (ps:=ps) (cells:=c1) (fun p hpm=>by
   obtain⟨off',e1,e2⟩:=h p (by simp[hpm])
   exact⟨off',e1,by rw[hs1];exact e2⟩) hp.2
  refine⟨r,?_,k2.trans hs1,?_,?_⟩
  ·unfold BR
   rw[h1]
   simp only
   rw[As (by simp;omega)]
   exact k1
  ·intro p hpm off' s hpl
   rcases AO.1 hpm with rfl|hpm
   ·simp only at hpl
    rw[h1] at hpl
    simp only[Aa,Af] at hpl
    obtain⟨rfl,rfl⟩:=hpl
    rw[k4 off v.cells.size (fun q hq o' s' hq'=>hp.1 q hq off _ o' s' h1 hq'),hc1]
    have:=fJ (c:=cells.toList) (d:=v.cells.toList) (o:=off) (by simpa using h2)
    simpa using this
   ·exact k3 p hpm off' s hpl
  ·intro oo m hall
   rw[k4 oo m (fun p hpm=>hall p (by simp[hpm])),hc1]
   exact tN (by simpa using h2) (by simpa using hall (i,v) (by simp) off _ h1)
theorem Br1 (hs:Sub gv g) {n:Nat} {d:Dat} (hn:(gv n).sv=.dead):Sub gv (upN g n d):=fun i=>by
 by_cases e:i=n
 ·subst e;exact .inl hn
 ·rw[cX e];exact hs i
theorem AR8 {mv:Bool} {ts:Nat→Option Ty}:∀ {l:List (Nat × Operand)} {g gv:yL} {V:Nat→Option Value} {S:Nat→Prop} {β:Key→Option Nat} {n:Nat} {ds:List (Nat × Dat)} {us:List Up},
  Rel H N g V w S β→Sub gv g→yW N gv→(∀ i,n≤i→(g i).sv=.dead)→N≤n→fU gv mv ts l=some (ds,us) →
  ∃ (S1:Nat→Prop) (β1:Key→Option Nat) (g1:yL) (V1:Nat→Option Value) (cs:List (List Value)),Rel H N g1 V1 w S1 β1∧Step w S β w S1 β1∧Sub (gv.ups us) g1∧yW N (gv.ups us)∧(∀ i,i < N→g1 i=(g.ups us) i∧V1 i=V i)∧(∀ i,N≤i→i < n→g1 i=g i∧V1 i=V i) ∧
   (∀ i,n+ds.length≤i→(g1 i).sv=.dead)∧cs.length=ds.length∧(∀ u ∈ us,u.slot < N) ∧
   ds.map (·.1)=l.map (·.1) ∧
   (∀ j (p:Nat × Dat) (c:List Value),ds[j]?=some p→cs[j]?=some c→(g1 (n+j)).sv=.dat p.2∧V1 (n+j)=some (yK p.2.t c)∧c.length=p.2.t.size∧p.2.f.whole=true ∧
    ∃ x,l[j]?=some x∧((∀ q ∈ l,∀ s,q.2=.tmp s→s < N)→evl V x.2=some (yK p.2.t c)))
 | [],g,gv,V,S,β,n,ds,us,h,hs,hD,hdead,hN,ht=>by
  simp only[fU,Aa,Af] at ht
  obtain⟨rfl,rfl⟩:=ht
  exact⟨S,β,g,V,[],h,.refl,hs,hD,fun _ _=>⟨rfl,rfl⟩,fun _ _ _=>⟨rfl,rfl⟩,by simpa using hdead,rfl,by simp,rfl,by simp⟩
 | (i,x) :: l,g,gv,V,S,β,n,ds,us,h,hs,hD,hdead,hN,ht=>by
  simp only[fU] at ht
  split at ht
  ·rename_i d us1 ht1
   simp only[Ab,Af] at ht
   obtain⟨⟨ds2,us2⟩,ht2,rfl,rfl⟩:=ht
   simp only at *
   obtain⟨ht1',hsub1⟩:=AF5 hs ht1
   have hnd:=hdead n (Al _)
   have halive:=aC ht1
   have hslot:∀ u ∈ us1,u.slot < N:=fun u hu=>hD.lt (halive u hu)
   have hD1:yW N (gv.ups us1):=hD.ups hslot
   obtain⟨S1,β1,c,k1,k2,k3,k4⟩:=bX h ht1' hnd hN
   have hdead':∀ i,n+1≤i→((upN (g.ups us1) n d) i).sv=.dead:=fun i hi=>by
    rw[cX (by omega)]
    have:∀ (us:List Up) (g:yL),(∀ u ∈ us,u.slot < N)→(g i).sv=.dead→((g.ups us) i).sv=.dead:=by
     intro us
     induction us with
     | nil=>intro g _ h;exact h
     | cons u us ih=>intro g hu h;exact ih (g.up u) (fun v hv=>hu v (by simp[hv])) (by rw[oQ (by have:=hu u (by simp);omega)];exact h)
    exact this us1 g hslot (hdead i (by omega))
   obtain⟨S2,β2,g2,V2,cs,q1,q2,q3,q4,q5,q6,q7,q8,q9,q10,q11⟩:=AR8 (l:=l) (g:=upN (g.ups us1) n d) (gv:=gv.ups us1) (n:=n+1) k1 (Br1 hsub1 (hD1 n hN)) hD1 hdead' (by omega) ht2
   have upsN:∀ (us:List Up) (g:yL) (j:Nat),j≠n→((upN g n d).ups us) j=(g.ups us) j:=by
    intro us
    induction us with
    | nil=>intro g j hj;exact cX hj
    | cons u us ih=>
     intro g j hj
     show (((upN g n d).up u).ups us) j=((g.up u).ups us) j
     have:∀ (g1 g2:yL),(∀ k,k≠n→g1 k=g2 k)→∀ k,k≠n→(g1.ups us) k=(g2.ups us) k:=by
      clear ih
      induction us with
      | nil=>intro g1 g2 h;exact h
      | cons v vs ih2=>
       intro g1 g2 h
       refine ih2 _ _ fun k hk=>?_
       by_cases e:k=v.slot
       ·subst e;rw[jC,jC,h _ hk]
       ·rw[oQ e,oQ e,h _ hk]
     refine this _ _ (fun k hk=>?_) j hj
     by_cases e:k=u.slot
     ·subst e;rw[jC,jC,cX hk]
     ·rw[oQ e,oQ e,cX hk]
   refine⟨S2,β2,g2,V2,c :: cs,q1,k2.trans q2,by rw[xS];exact q3,by rw[xS];exact q4,fun j hj=>?_,fun j h1 h2=>?_,fun j hj=>q7 j (by simp at hj ⊢;omega),by simp[q8],?_,by simp[q10],?_⟩
   ·obtain⟨e1,e2⟩:=q5 j hj
    rw[e1,e2,xS,upsN us2 _ j (by omega)]
    exact⟨rfl,by simp only[upd];rw[As (by omega)]⟩
   ·obtain⟨e1,e2⟩:=q6 j h1 (by omega)
    rw[e1,e2,cX (by omega)]
    have:∀ (us:List Up) (g:yL),(∀ u ∈ us,u.slot < N)→(g.ups us) j=g j:=by
     intro us
     induction us with
     | nil=>intro g _;rfl
     | cons u us ih=>intro g hu;rw[show g.ups (u :: us)=(g.up u).ups us from rfl,ih (g.up u) (fun v hv=>hu v (by simp[hv])),oQ (by have:=hu u (by simp);omega)]
    exact⟨this us1 g hslot,by simp only[upd];rw[As (by omega)]⟩
   ·intro u hu
    rcases List.mem_append.1 hu with hu|hu
    ·exact hslot u hu
    ·exact q9 u hu
   ·intro j p cc hp hc
    cases j with
    | zero=>
     simp only[Ao,Aa] at hp hc
     subst hp;subst hc
     obtain⟨e1,e2⟩:=q6 n hN (by omega)
     refine⟨by rw[Ay,e1,bM],by rw[Ay,e2];simp[upd],k4,Ar3 ht1',(i,x),rfl,fun _=>k3⟩
    | succ j=>
     simp only[AB] at hp hc
     obtain⟨e1,e2,e3,e4,y,e5,e6⟩:=q11 j p cc hp hc
     rw[show n+(j+1)=n+1+j by omega]
     refine⟨e1,e2,e3,e4,y,by simpa using e5,fun hlt=>?_⟩
     have hy:∀ s,y.2=.tmp s→s < N:=hlt y (by simp[Aw e5])
     have:=e6 (fun q hq=>hlt q (by simp[hq]))
     revert this
     cases hyx:y.2 with
     | tmp s=>
      intro this
      simp only[evl,upd] at this ⊢
      rw[As (fun e=>absurd (hy s hyx) (by rw[e];exact Ci.2 hN))] at this;exact this
     | _=>exact fun h=>h
  ·cases ht
end
end Go.Rf

end
section
namespace Go.Rf
set_option linter.unusedSectionVars false
variable [T:Laid]
section
variable {P:Program} {H:Nat→Option (List Value)} {N:Nat} {g g' σ:yL} {V V':Nat→Option Value} {w w':World} {S S':Nat→Prop} {β β':Key→Option Nat} {a:Act} {o:Oper}
variable {E:Env} {gv:yL} {us:List Up}
structure Mover where
 n:Nat
 dst:Key
 d:Dat
 c:List Value
theorem A26:∀ {ps:List Mover} {β:Key→Option Nat},Sane w S β→(∀ p ∈ ps,zX S β H w [p.n] p.d.t p.d.f p.d.x p.c) →
  ps.Pairwise (fun p q=>p.n≠q.n∧(∀ s,pX p.dst (q.dst++s)=none)∧∀ s,pX q.dst (p.dst++s)=none)→(∀ p ∈ ps,∀ q ∈ ps,∀ s,pX [p.n] (q.dst++s)=none∧pX q.dst (p.n :: s)=none) →
  ∃ β',Sane w S β'∧Step w S β w S β'∧(∀ k b,(∀ p ∈ ps,pX p.dst k=none∧pX [p.n] k=none)→β k=some b→β' k=some b)∧∀ p ∈ ps,zX S β' H w p.dst p.d.t p.d.f p.d.x p.c
 | [],β,hs,_,_,_=>⟨β,hs,.refl,fun _ _ _ h=>h,by simp⟩
 | p :: ps,β,hs,hv,hp,hn=>by
  rw[BS] at hp
  obtain⟨β',k1,k2,k3,k4⟩:=A26 (ps:=ps) (hs.rekey [p.n] p.dst) (fun q hq=>by
   refine zS (fun b hb=>⟨hb,rfl⟩) (fun s b hb=>⟨?_,rfl⟩) (hv q (by simp[hq]))
   have h1:=hp.1 q hq
   rw[vX]
   ·exact hb
   ·exact (hn q (by simp[hq]) p (by simp) s).2
   ·simp[pX,h1.1]) hp.2 (fun q hq r hr=>hn q (by simp[hq]) r (by simp[hr]))
  refine⟨β',k1,(Step.rekey _ _).trans k2,fun k b hk hb=>?_,fun q hq=>?_⟩
  ·refine k3 k b (fun q hq=>hk q (by simp[hq])) ?_
   have:=hk p (by simp)
   rw[vX this.1 this.2];exact hb
  ·rcases AO.1 hq with rfl|hq
   ·refine zS (p:=q.dst) (fun b hb=>⟨hb,rfl⟩) (fun s b hb=>⟨?_,rfl⟩) (lI (hv q (by simp)))
    refine k3 _ b (fun r hr=>⟨(hp.1 r hr).2.2 s,(hn r (by simp[hr]) q (by simp) s).1⟩) hb
   ·exact k4 q hq
def AE8 (g:yL) (V:Nat→Option Value) (n:Nat) (ds:List (Nat × Dat)) (cs:List (List Value)):Prop:=
 cs.length=ds.length∧∀ j (p:Nat × Dat) (c:List Value),ds[j]?=some p→cs[j]?=some c→(g (n+j)).sv=.dat p.2∧V (n+j)=some (yK p.2.t c)∧c.length=p.2.t.size∧p.2.f.whole=true
def A21 (n:Nat) (dst:Nat→Key) (ds:List (Nat × Dat)) (cs:List (List Value)):List Mover:=
 ((ds.zip cs).zipIdx).map fun x=>⟨n+x.2,dst x.1.1.1,x.1.1.2,x.1.2⟩
theorem AW4 {n:Nat} {dst:Nat→Key} {ds:List (Nat × Dat)} {cs:List (List Value)} {m:Mover} (h:m ∈ A21 n dst ds cs):
  ∃ (j:Nat) (p:Nat × Dat) (c:List Value),ds[j]?=some p∧cs[j]?=some c∧m=⟨n+j,dst p.1,p.2,c⟩:=by
 unfold A21 at h
 rw[AN] at h
 obtain⟨⟨⟨p,c⟩,j⟩,hx,rfl⟩:=h
 rw[Bp] at hx
 simp only[A6] at hx
 exact⟨j,p,c,hx.1,hx.2,rfl⟩
theorem BI5 {n:Nat} {dst:Nat→Key} {ds:List (Nat × Dat)} {cs:List (List Value)} {j:Nat} {p:Nat × Dat} {c:List Value} (h1:ds[j]?=some p) (h2:cs[j]?=some c):
  (⟨n+j,dst p.1,p.2,c⟩:Mover) ∈ A21 n dst ds cs:=by
 unfold A21
 rw[AN]
 exact⟨((p,c),j),by rw[Bp];simp only[A6];exact⟨h1,h2⟩,rfl⟩
theorem gM:∀ {l:List Nat},iR l=true→l.Nodup
 | [],_=>List.nodup_nil
 | a :: l,h=>by
  simp only[iR,Ad,A8,List.any_eq_false,A3] at h
  exact List.nodup_cons.2 ⟨fun hm=>h.1 a hm rfl,gM h.2⟩
theorem A50 {n d:Nat} {dst:Nat→Key} {ds:List (Nat × Dat)} {cs:List (List Value)} (h:Rel H N g V w S β) (hh:AE8 g V n ds cs) (hd:d < N) (hN:N≤n) (hnd:iR (ds.map (·.1))=true)
  (hdst:∀ i,∃ k,dst i=d :: k) (hfree:∀ i j s,i≠j→pX (dst i) (dst j++s)=none):
  ∃ β2,Sane w S β2∧Step w S β w S β2∧(∀ j s b,j≠d→j < N→β (j :: s)=some b→β2 (j :: s)=some b) ∧
   ∀ (j:Nat) (p:Nat × Dat) (c:List Value),ds[j]?=some p→cs[j]?=some c→zX S β2 H w (dst p.1) p.2.t p.2.f p.2.x c:=by
 have hnod:=gM hnd
 obtain⟨β2,k1,k2,k3,k4⟩:=A26 (H:=H) (ps:=A21 n dst ds cs) h.sane (fun m hm=>by
  obtain⟨j,p,c,h1,h2,rfl⟩:=AW4 hm
  obtain⟨e1,e2,e3,_⟩:=hh.2 j p c h1 h2
  obtain⟨cc,hv,hV⟩:=h.dat e1
  have:=rH (Ap (hV.symm.trans e2)) (yC hv) e3
  subst this;exact hv)
  (by
   unfold A21
   rw[B0]
   rw[Au]
   intro i j hi hj hij
   simp only[List.length_zipIdx,BA] at hi hj
   simp only[List.getElem_zipIdx,B5,A2]
   have hne:(ds[i]'(by omega)).1≠(ds[j]'(by omega)).1:=by
    intro e
    have:=(Au.1 hnod) i j (by simp;omega) (by simp;omega) hij
    simp only[AH] at this
    exact this e
   exact⟨by omega,fun s=>hfree _ _ s hne,fun s=>hfree _ _ s (B7 hne)⟩)
  (fun m hm q hq s=>by
   obtain⟨j,p,c,h1,h2,rfl⟩:=AW4 hm
   obtain⟨j',p',c',h1',h2',rfl⟩:=AW4 hq
   obtain⟨k,hk⟩:=hdst p'.1
   simp only[hk]
   exact⟨by simp[pX];omega,by simp[pX];intro e;omega⟩)
 refine⟨β2,k1,k2,fun j s b hj hjN hb=>k3 _ b (fun m hm=>?_) hb,fun j p c h1 h2=>k4 _ (BI5 h1 h2)⟩
 obtain⟨i,p,c,h1,h2,rfl⟩:=AW4 hm
 obtain⟨k,hk⟩:=hdst p.1
 simp only[hk]
 exact⟨by simp[pX,B7 hj],by simp[pX];omega⟩
theorem BX6 {n:Nat}:∀ {m:Nat} {ds:List (Nat × Dat)} {cs:List (List Value)} {g:yL} {S:Nat→Prop} {β:Key→Option Nat},ds.length=m→Rel H N g V w S β→AE8 g V n ds cs→N≤n →
  ∃ S1 β1 g1,Rel H N g1 V w S1 β1∧Step w S β w S1 β1∧(∀ i,i < n→g1 i=g i)∧(∀ i,n+m≤i→g1 i=g i)∧AE8 g1 V n (ds.map fun p=>(p.1,⟨p.2.t,p.2.x,.sh⟩)) cs∧∀ j s b,j < n→β (j :: s)=some b→β1 (j :: s)=some b:=by
 intro m
 induction m with
 | zero=>
  intro ds cs g S β hm h hh hN
  have:ds=[]:=Am.1 hm
  subst this
  exact⟨S,β,g,h,.refl,fun _ _=>rfl,fun _ _=>rfl,by simpa using hh,fun _ _ _ _ h=>h⟩
 | succ m ih=>
  intro ds cs g S β hm h hh hN
  have hds:ds≠[]:=fun e=>by rw[e] at hm;simp at hm
  obtain⟨ds0,p,rfl⟩:∃ l p,ds=l++[p]:=⟨ds.dropLast,ds.getLast hds,(Bq hds).symm⟩
  have hcs:cs≠[]:=fun e=>by have:=hh.1;rw[e] at this;simp at this
  obtain⟨cs0,c,rfl⟩:∃ l p,cs=l++[p]:=⟨cs.dropLast,cs.getLast hcs,(Bq hcs).symm⟩
  have hl0:ds0.length=m:=by simpa using hm
  have hlc:cs0.length=m:=by have:=hh.1;simp at this;omega
  obtain⟨S1,β1,g1,k1,k2,k3,k4,k5,k6⟩:=ih (ds:=ds0) (cs:=cs0) hl0 h ⟨by omega,fun j p c h1 h2=>hh.2 j p c (by rw[A7 (by have:=(Ae.1 h1).1;exact this)];exact h1)
   (by rw[A7 (by have:=(Ae.1 h2).1;exact this)];exact h2)⟩ hN
  obtain⟨e1,e2,e3,e4⟩:=hh.2 m p c (by rw[A4 (by omega)];simp[hl0]) (by rw[A4 (by omega)];simp[hlc])
  have hg1:(g1 (n+m)).sv=.dat p.2:=by rw[k4 _ (by omega)];exact e1
  have hp:=k1.publish (p:=[]) hg1 rfl e4
  refine⟨_,_,_,hp,k2.trans (.pub _ _ _),fun i hi=>?_,fun i hi=>?_,⟨by simp[hl0,hlc],fun j q c' h1 h2=>?_⟩,fun j s b hj hb=>?_⟩
  ·rw[oQ (u:=.pub (n+m) _) (by simp only[Up.slot];omega)];exact k3 i hi
  ·rw[oQ (u:=.pub (n+m) _) (by simp only[Up.slot];omega)];exact k4 i (by omega)
  ·rw[List.map_append,List.map_singleton] at h1
   by_cases hj:j < m
   ·rw[A7 (by simp[hl0,hj])] at h1
    rw[A7 (by omega)] at h2
    rw[oQ (u:=.pub (n+m) _) (by simp only[Up.slot];omega)]
    exact k5.2 j q c' h1 h2
   ·have hjm:j=m:=by
     have:=(Ae.1 h2).1
     simp at this;omega
    subst hjm
    rw[A4 (by simp[hl0])] at h1
    rw[A4 (by omega)] at h2
    simp only[AT,hl0,BW,Ao,Aa,hlc] at h1 h2
    subst h1;subst h2
    refine⟨?_,e2,e3,rfl⟩
    rw[show (g1.up (.pub (n+j) (.dat ⟨p.2.t,p.2.x,aL [] p.2.f .sh⟩))) (n+j)=_ from jC (u:=.pub (n+j) _)]
    rfl
  ·have:=k6 j s b hj hb
   simp only[BG0];rw[As (by omega)];exact this
end
end Go.Rf

end
section
namespace Go.Rf
set_option linter.unusedSectionVars false
variable [T:Laid]
section
variable {P:Program} {H:Nat→Option (List Value)} {N:Nat} {g g' σ:yL} {V V':Nat→Option Value} {w w':World} {S S':Nat→Prop} {β β':Key→Option Nat} {a:Act} {o:Oper}
variable {E:Env} {gv:yL} {us:List Up}
theorem AJ5 {l:List (Nat × Dat)} {i:Nat} {d:Dat} (h:cG l i=some d):∃ (j:Nat) (p:Nat × Dat),l[j]?=some p∧p.1=i∧p.2=d:=by
 unfold cG at h
 rw[Ab] at h
 obtain⟨p,h1,h2⟩:=h
 obtain⟨j,hj⟩:=BH (List.mem_of_find?_eq_some h1)
 have:=List.find?_some h1
 exact⟨j,p,hj,by simpa[A3] using this,h2⟩
theorem AI3 {l:List (Nat × Dat)} {i:Nat} (h:cG l i=none):∀ p ∈ l,p.1≠i:=by
 unfold cG at h
 rw[Option.map_eq_none_iff,List.find?_eq_none] at h
 intro p hp e
 exact h p hp (by simp[A3,e])
theorem A67 {t:Ty} {h:Nat→Option Dat}:∀ {n i:Nat} {xs:List t.D},A89 t h i n=some xs→xs.length=n ∧
  ∀ j,j < n→(h (i+j)=none→xs[j]?=some t.dflt)∧∀ d,h (i+j)=some d→∃ x,iP d.t t d.x=some x∧xs[j]?=some x
 | 0,i,xs,hl=>by
  simp only[A89,Aa] at hl;subst hl
  exact⟨rfl,fun j hj=>by omega⟩
 | n+1,i,xs,hl=>by
  simp only[A89] at hl
  split at hl
  ·rename_i l hl'
   obtain⟨h1,h2⟩:=A67 hl'
   split at hl
   ·rename_i d hd
    simp only[Ab] at hl
    obtain⟨x,hx,rfl⟩:=hl
    refine⟨by simp[h1],fun j hj=>?_⟩
    cases j with
    | zero=>exact⟨fun e=>by (rw[Ay,hd] at e;cases e),fun d' hd'=>by (rw[Ay,hd] at hd';cases hd';exact⟨x,hx,rfl⟩)⟩
    | succ j=>
     have:=h2 j (by omega)
     rw[show i+1+j=i+(j+1) by omega] at this
     simpa using this
   ·rename_i hd
    simp only[Aa] at hl
    subst hl
    refine⟨by simp[h1],fun j hj=>?_⟩
    cases j with
    | zero=>exact⟨fun _=>rfl,fun d' hd'=>by rw[Ay,hd] at hd';cases hd'⟩
    | succ j=>
     have:=h2 j (by omega)
     rw[show i+1+j=i+(j+1) by omega] at this
     simpa using this
  ·cases hl
def B1O (f:Fl) (ds:List (Nat × Dat)):List (Nat × Dat):=ds.map fun p=>(p.1,⟨p.2.t,p.2.x,f⟩)
theorem BH8 {mv:Bool} {m n:Nat} {τ:Ty} {ds:List (Nat × Dat)} {cs:List (List Value)} {f:Fl} (h:Rel H N g V w S β) (hh:AE8 g V m ds cs) (hN:N≤m) (hm:A5d mv n τ ds=some f):
  ∃ S1 β1 g1,Rel H N g1 V w S1 β1∧Step w S β w S1 β1∧(∀ i,i < m→g1 i=g i)∧AE8 g1 V m (B1O f ds) cs∧(∀ j s b,j < m→β (j :: s)=some b→β1 (j :: s)=some b)∧(f=.nw mv τ∨(f=.sh∧(Fl.nw mv τ).whole=true)∨(n=1∧ds.length=1)):=by
 have same:(∀ p ∈ ds,p.2.f=f)→AE8 g V m (B1O f ds) cs:=fun hf=>by
  have:B1O f ds=ds:=by
   unfold B1O
   conv=>rhs;rw[← List.map_id ds]
   refine BL fun p hp=>?_
   obtain⟨i,t,x,f'⟩:=p
   have:=hf _ hp
   simp only at this
   subst this;rfl
  rw[this];exact hh
 have pubs:(Fl.nw mv τ).whole=true→f=.sh→∃ S1 β1 g1,Rel H N g1 V w S1 β1∧Step w S β w S1 β1∧(∀ i,i < m→g1 i=g i)∧AE8 g1 V m (B1O f ds) cs∧(∀ j s b,j < m→β (j :: s)=some b→β1 (j :: s)=some b)∧(f=.nw mv τ∨(f=.sh∧(Fl.nw mv τ).whole=true)∨(n=1∧ds.length=1)):=by
  intro hw hf
  subst hf
  obtain⟨S1,β1,g1,k1,k2,k3,_,k5,k6⟩:=BX6 rfl h hh hN
  exact⟨S1,β1,g1,k1,k2,k3,k5,k6,.inr (.inl ⟨rfl,hw⟩)⟩
 unfold A5d at hm
 split at hm
 ·rename_i i d
  split at hm
  ·rename_i h1
   simp only[Aa] at hm;subst hm
   exact⟨S,β,g,h,.refl,fun _ _=>rfl,same (by simp),fun _ _ _ _ h=>h,.inr (.inr ⟨by simpa[A3] using h1,rfl⟩)⟩
  ·split at hm
   ·rename_i h2
    simp only[Aa] at hm;subst hm
    exact⟨S,β,g,h,.refl,fun _ _=>rfl,same (by simp),fun _ _ _ _ h=>h,.inl h2⟩
   ·split at hm
    ·rename_i h3
     simp only[Ad,BJ1] at h3
     simp only[Aa] at hm
     exact pubs h3.2 hm.symm
    ·cases hm
 ·split at hm
  ·rename_i h2
   simp only[Aa] at hm;subst hm
   exact⟨S,β,g,h,.refl,fun _ _=>rfl,same (fun p hp=>by simpa using AI.1 h2 p hp),fun _ _ _ _ h=>h,.inl rfl⟩
  ·split at hm
   ·rename_i h3
    simp only[Ad,BJ1] at h3
    simp only[Aa] at hm
    exact pubs h3.1 hm.symm
   ·cases hm
def AB7 (ds:List (Nat × Dat)) (cs:List (List Value)):List (Nat × Value):=(ds.zip cs).map fun x=>(x.1.1,yK x.1.2.t x.2)
theorem AX2 {ds:List (Nat × Dat)} {cs:List (List Value)} {x:Nat × Value} (h:x ∈ AB7 ds cs):∃ (j:Nat) (p:Nat × Dat) (c:List Value),ds[j]?=some p∧cs[j]?=some c∧x=(p.1,yK p.2.t c):=by
 unfold AB7 at h
 rw[AN] at h
 obtain⟨⟨p,c⟩,hx,rfl⟩:=h
 obtain⟨j,hj⟩:=BH hx
 simp only[A6] at hj
 exact⟨j,p,c,hj.1,hj.2,rfl⟩
theorem A1D {n j:Nat} {ds:List (Nat × Dat)} {cs:List (List Value)} {p:Nat × Dat} {c:List Value} (h:Rel H N g V w S β) (hh:AE8 g V n ds cs) (h1:ds[j]?=some p) (h2:cs[j]?=some c):
  (yK p.2.t c).cells=c.toArray∧c.length=p.2.t.size:=by
 obtain⟨e1,e2,e3,e4⟩:=hh.2 j p c h1 h2
 obtain⟨cc,hv,hV⟩:=h.dat e1
 have:=rH (Ap (hV.symm.trans e2)) (yC hv) e3
 subst this
 exact⟨AI6 e3 (A37 e4 hv),e3⟩
theorem A65 {n k d:Nat} {τ:Ty} {mv:Bool} {Z:Array Value} {ds:List (Nat × Dat)} {cs:List (List Value)} {f:Fl} {xs:List τ.D} (h:Rel H N g V w S β) (hh:AE8 g V n ds cs) (hN:N≤n) (hd:d < N)
  (hnd:iR (ds.map (·.1))=true) (hlt:ds.all (fun x=>Nat.blt x.1 k)=true) (hl:A89 τ (cG ds) 0 k=some xs) (hm:A5d mv k τ ds=some f) (hzs:Z.size=k * τ.size) (hz:∀ i,i < k→lS τ (win Z.toList (i * τ.size) τ.size)=true):
  ∃ r S1 β1,BR (fun i=>some (i * τ.size,τ.size)) Z (AB7 ds cs)=some r∧r.size=k * τ.size∧Sane w S1 β1∧Step w S β w S1 β1∧(∀ j s b,j≠d→j < N→β (j :: s)=some b→β1 (j :: s)=some b) ∧
   xs.length=k∧∀ i y,nth xs i=some y→zX S1 β1 H w [d,i] τ f y (win r.toList (i * τ.size) τ.size):=by
 obtain⟨S1,β1,g1,k1,k2,k3,k4,k6,k5⟩:=BH8 h hh hN hm
 obtain⟨β2,q1,q2,q3,q4⟩:=A50 (dst:=fun i=>[d,i]) k1 k4 hd hN (by unfold B1O;rw[B8];exact hnd) (fun i=>⟨[i],rfl⟩) (fun i j s hij=>by simp[pX,hij])
 obtain⟨hlen,hget⟩:=A67 hl
 have hty:∀ (j:Nat) (p:Nat × Dat),ds[j]?=some p→p.1 < k∧p.2.t=τ∧cG ds p.1=some p.2:=by
  intro j p hj
  have hlt':p.1 < k:=by
   have:=AI.1 hlt p (Aw hj)
   simpa[B6] using this
  have hp:∃ e,cG ds p.1=some e:=by
   cases he:cG ds p.1 with
   | some e=>exact⟨e,rfl⟩
   | none=>exact absurd rfl (AI3 he p (Aw hj))
  obtain⟨e,he⟩:=hp
  obtain⟨j',p',h1,h2,h3⟩:=AJ5 he
  have hjj:p'=p:=by
   have hnod:=gM hnd
   have hi1:=(Ae.1 h1)
   have hi2:=(Ae.1 hj)
   by_cases e':j'=j
   ·subst e';rw[h1] at hj;exact Ap hj
   ·exfalso
    have hpw:=Au.1 hnod
    rcases AQ e' with hlt2|hlt2
    ·have:=hpw j' j (by simp;exact hi1.1) (by simp;exact hi2.1) hlt2
     simp only[AH] at this
     rw[hi1.2,hi2.2] at this;exact this h2
    ·have:=hpw j j' (by simp;exact hi2.1) (by simp;exact hi1.1) hlt2
     simp only[AH] at this
     rw[hi1.2,hi2.2] at this;exact this h2.symm
  subst hjj
  obtain⟨x,hx,_⟩:=(hget p'.1 hlt').2 p'.2 (by rw[A2,he,h3])
  exact⟨hlt',(tD hx).1,by rw[he,h3]⟩
 have hsz:∀ (j:Nat) (p:Nat × Dat) (c:List Value),ds[j]?=some p→cs[j]?=some c→(yK p.2.t c).cells=c.toArray∧c.length=τ.size:=by
  intro j p c h1 h2
  obtain⟨e1,e2⟩:=A1D h hh h1 h2
  rw[(hty j p h1).2.1] at e2
  exact⟨e1,e2⟩
 have mulle:∀ i,i < k→i * τ.size+τ.size≤k * τ.size:=fun i hi=>by
  have:(i+1) * τ.size≤k * τ.size:=Ac _ hi
  rw[Ah,Av] at this;exact this
 have mulap:∀ i j,i≠j→i * τ.size+τ.size≤j * τ.size∨j * τ.size+τ.size≤i * τ.size:=fun i j hij=>by
  rcases AQ hij with hl|hl
  ·left
   have:(i+1) * τ.size≤j * τ.size:=Ac _ hl
   rw[Ah,Av] at this;exact this
  ·right
   have:(j+1) * τ.size≤i * τ.size:=Ac _ hl
   rw[Ah,Av] at this;exact this
 obtain⟨r,r1,r2,r3,r4⟩:=A7J (place:=fun i=>some (i * τ.size,τ.size)) (ps:=AB7 ds cs) (cells:=Z) (fun p hp=>by
  obtain⟨j,q,c,h1,h2,rfl⟩:=AX2 hp
  obtain⟨e1,e2⟩:=hsz j q c h1 h2
  refine⟨q.1 * τ.size,?_,?_⟩
  ·simp only[e1];simp[e2]
  ·simp only[e1,hzs];simp only[AW,e2];exact mulle _ (hty j q h1).1) (by
  unfold AB7
  rw[B0,Au]
  intro i j hi hj hij
  simp only[BA] at hi hj
  simp only[B5]
  have hne:(ds[i]'(by omega)).1≠(ds[j]'(by omega)).1:=by
   intro e
   have:=(Au.1 (gM hnd)) i j (by simp;omega) (by simp;omega) hij
   simp only[AH] at this
   exact this e
  intro o1 s1 o2 s2 h1 h2
  simp only[Aa,Af] at h1 h2
  obtain⟨rfl,rfl⟩:=h1
  obtain⟨rfl,rfl⟩:=h2
  exact mulap _ _ hne)
 refine⟨r,S1,β2,r1,by rw[r2,hzs],q1,k2.trans q2,fun j s b hj hjN hb=>?_,hlen,fun i y hy=>?_⟩
 ·exact q3 j s b hj hjN (k6 j s b (by omega) hb)
 ·have hi:i < k:=by unfold nth at hy;have:=(Ae.1 hy).1;omega
  cases hp:cG ds i with
  | some e=>
   obtain⟨j,p,h1,h2,h3⟩:=AJ5 hp
   have hjc:∃ c,cs[j]?=some c:=by
    have:=(Ae.1 h1).1
    exact⟨cs[j]'(by rw[hh.1];exact this),A1 _⟩
   obtain⟨c,hc⟩:=hjc
   obtain⟨e1,e2⟩:=hsz j p c h1 hc
   have hwin:=r3 (p.1,yK p.2.t c) (by
    unfold AB7
    rw[AN]
    refine⟨(p,c),?_,rfl⟩
    exact Aw (i:=j) (by simp only[A6];exact⟨h1,hc⟩)) (p.1 * τ.size) τ.size rfl
   simp only[e1,h2] at hwin
   rw[hwin]
   have hv:=q4 j (p.1,⟨p.2.t,p.2.x,f⟩) c (by unfold B1O;rw[AD,h1];rfl) hc
   simp only[h2] at hv
   obtain⟨x,hx,hxi⟩:=(hget i hi).2 e (by rw[A2];exact hp)
   have hyx:y=x:=by
    unfold nth at hy
    rw[hxi] at hy;exact (Ap hy).symm
   subst hyx
   subst h3
   obtain⟨pi,pt,px,pf⟩:=p
   simp only at hv hx h2
   obtain⟨het,hex⟩:=tD hx
   subst het
   subst hex
   simpa using hv
  | none=>
   have hnone:=AI3 hp
   have hyd:y=τ.dflt:=by
    have:=(hget i hi).1 (by rw[A2];exact hp)
    unfold nth at hy
    rw[this] at hy;exact (Ap hy).symm
   subst hyd
   have hwin:=r4 (i * τ.size) τ.size (fun p hpm off s hpl=>by
    obtain⟨j,q,c,h1,h2,rfl⟩:=AX2 hpm
    simp only[Aa,Af] at hpl
    obtain⟨rfl,rfl⟩:=hpl
    exact mulap _ _ (B7 (hnone q (Aw h1))))
   rw[hwin]
   have hzv:=mA (S:=S1) (β:=fun _=>none) (H:=H) (w:=w) (k:=[d,i]) mv (hz i hi)
   rcases k5 with e|⟨e,hw⟩| ⟨e1,e2⟩
   ·subst e
    exact mA mv (hz i hi)
   ·subst e
    exact xD.2 (uX hw (fun _ h=>h) (fun _ _ hb=>by cases hb) hzv)
   ·exfalso
    obtain⟨p,hpd⟩:=List.length_eq_one_iff.1 e2
    have h0:=hty 0 p (by rw[hpd];rfl)
    have:i=0:=by omega
    exact hnone p (by rw[hpd];simp) (by omega)
end
end Go.Rf

end
section
namespace Go.Rf
set_option linter.unusedSectionVars false
variable [T:Laid]
section
variable {P:Program} {H:Nat→Option (List Value)} {N:Nat} {g g' σ:yL} {V V':Nat→Option Value} {w w':World} {S S':Nat→Prop} {β β':Key→Option Nat} {a:Act} {o:Oper}
variable {E:Env} {gv:yL} {us:List Up}
theorem Bi7 (hs:Sub gv g) (hD:yW N g):yW N gv:=fun i hi=>by
 rcases hs i with h|h
 ·exact h
 ·rw[← h];exact hD i hi
theorem A3B {s:Nat}:∀ {l:List Operand},.tmp s ∈ l→s ∈ Au0 l
 | [],h=>by simp at h
 | x :: l,h=>by
  rcases AO.1 h with h|h
  ·subst h;simp[Au0]
  ·have:=A3B h
   cases x<;>simp[Au0,this]
theorem Bk9 {n s:Nat} (h:opIn n o=true) (hs:.tmp s ∈ o.op.operands.toList):s < n:=by
 unfold opIn at h
 simp only[Ad] at h
 have:=AI.1 h.2 s (A3B hs)
 simpa[B6] using this
theorem AL2 {mv:Bool} {ts:Nat→Option Ty} {ps:Array (Nat × Operand)} {ds:List (Nat × Dat)} (hc:Ctx P H S β a w o g) (hs:Sub gv g) (ht:fU gv mv ts ps.toList=some (ds,us))
  (hin:∀ q ∈ ps.toList,q.2 ∈ o.op.operands.toList):
  ∃ (S1:Nat→Prop) (β1:Key→Option Nat) (g1:yL) (V1:Nat→Option Value) (cs:List (List Value)),Rel H a.tmps.size g1 V1 w S1 β1∧Step w S β w S1 β1∧AE8 g1 V1 a.tmps.size ds cs ∧
   Rel H a.tmps.size (g.ups us) (vals a) w S1 β1∧yW a.tmps.size (g.ups us)∧(ps.map fun (i,x)=>(i,a.eval x)).toList=AB7 ds cs:=by
 obtain⟨S1,β1,g1,V1,cs,k1,k2,k3,k4,k5,k6,k7,k8,k9,k10,k11⟩:=AR8 hc.rel hs (Bi7 hs hc.dead) (fun i hi=>hc.dead i hi) (Al _) ht
 have hD:yW a.tmps.size (g.ups us):=hc.dead.ups k9
 refine⟨S1,β1,g1,V1,cs,k1,k2,⟨k8,fun j p c h1 h2=>let ⟨e1,e2,e3,e4,_⟩:=k11 j p c h1 h2;⟨e1,e2,e3,e4⟩⟩,k1.fin (fun i hi=>(k5 i hi).1.symm) hD (fun i hi=>(k5 i hi).2.symm),hD,?_⟩
 rw[AY]
 apply AC
 intro j
 unfold AB7
 rw[AD,AD]
 cases hp:ds[j]? with
 | none=>
  have hlen:ds.length=ps.toList.length:=by have:=AX Ag k10;simpa using this
  have h1:ps.toList[j]?=none:=by rw[By] at hp ⊢;omega
  have h2:(ds.zip cs)[j]?=none:=by rw[By] at hp ⊢;simp;omega
  rw[h1,h2];rfl
 | some p=>
  have hj:=(Ae.1 hp).1
  have hc':cs[j]?=some (cs[j]'(by omega)):=A1 _
  obtain⟨e1,e2,e3,e4,x,e5,e6⟩:=k11 j p _ hp hc'
  have h2:(ds.zip cs)[j]?=some (p,cs[j]'(by omega)):=by simp only[A6];exact⟨hp,hc'⟩
  rw[e5,h2]
  simp only[Bb]
  have hx1:x.1=p.1:=by
   have:=AX (fun l=>l[j]?) k10
   simp only[AD,hp,e5,Bb,Aa] at this
   exact this.symm
  have:=zP (e6 (fun q hq s hqs=>Bk9 hc.opIn (hqs▸hin q hq)))
  rw[hx1,this]
theorem A1c {t e:TypeId} {τ:Ty} {z:Value} {n:Nat} {parts:Array (Nat × Value)} {r:Array Value} (h:SlOK E t e τ z) (hn:n * τ.size≤16777216)
  (hf:BR (fun i=>some (i * τ.size,τ.size)) (cK z.cells (n * τ.size)) parts.toList=some r):
  (B' t n parts).run E.P w=.ok (.slice (some ⟨w.heap.size,0,none⟩) n n) { w with heap:=w.heap.push (.cells r e) }:=by
 have hsz:(sizeOf e).run E.P w=.ok τ.size w:=rK h.elem
 unfold B'
 simp only[Sem.run_bind,zE h.und,Result.andThen_ok,hsz]
 rw[As (by omega)]
 by_cases h0:n * τ.size=0
 ·have e0:cK z.cells 0=#[]:=by simp[cK]
  rw[h0,e0] at hf
  have e2:Co (fun (_:Nat)=>(default:Value)) (BG 0)=#[]:=by simp
  simp[h0,newRow]
  rw[e2,hf]
  simp
 ·have:((BG (n * τ.size)).map fun x=>z.cells[x % z.cells.size]!)=cK z.cells (n * τ.size):=rfl
  simp only[h0,if_false,Sem.run_bind,h.zero,Result.andThen_ok,Sem.run_pure,this,hf,newRow,run_newObj]
theorem As5 {mv:Bool} {t:TypeId} {n:Nat} {ps:Array (Nat × Operand)} (hc:Ctx E.P H S β a w o g) (hs:Sub gv g) (hm:o.op=.buildSlice t n ps)
  (hk:eW E gv mv o t n ps some=some us):yY E.P H S β a w o (g.ups us):=by
 unfold eW at hk
 split at hk
 ·rename_i τ ht
  split at hk
  ·rename_i ds us1 htp
   split at hk
   ·rename_i hcond
    simp only[Ad,BP] at hcond
    obtain⟨⟨hnd,hlt⟩,hsmall⟩:=hcond
    split at hk
    ·rename_i xs f hl hmf
     obtain⟨dd,ho,rfl⟩:=xA hk
     obtain⟨τ2,e,z,heq,hok⟩:=A9O ht
     simp only[Ty.sl.injEq] at heq
     subst heq
     obtain⟨S1,β1,g1,V1,cs,k1,k2,k3,k4,k5,k6⟩:=AL2 hc hs htp (fun q hq=>by rw[hm];simp only[Ce,AY];exact AN.2 ⟨q,hq,rfl⟩)
     have hd:=wP hc.opIn ho
     obtain⟨r,S2,β2,q1,q2,q3,q4,q5,q6,q7⟩:=A65 (d:=dd) (Z:=cK z.cells (n * τ.size)) k1 k3 (Al _) hd hnd hlt hl hmf aJ (fun i hi=>by rw[← hok.size,A5G hi];exact hok.cells)
     have hrun:=A1c (w:=w) (parts:=ps.map fun (i,x)=>(i,a.eval x)) hok hsmall (by rw[k6];exact q1)
     have hw':Pushed w { w with heap:=w.heap.push (.cells r e) } (.cells r e):=⟨rfl,rfl,rfl,rfl⟩
     have hsame:=(k2.trans q4).same hc.rel.sane
     intro K Q hK
     refine rZ (w':={ w with heap:=w.heap.push (.cells r e) }) (v:=.slice (some ⟨w.heap.size,0,none⟩) n n) ?_ (hK _ _ S2 _ uD xL ?_ ((k2.trans q4).trans (Step.newB hw' [dd])))
     ·simp only[execOp,hm,Sem.run_bind]
      exact AX (fun r:Result Value=>Result.andThen r fun v w'=>Result.ok (Next.value v) w') hrun
     ·rw[ho,tG hd,xS]
      have hst:=q4.same k4.sane
      refine k4.put (q3.new hw' [dd]) (fun b hb=>⟨(hst b hb).1,qJ hw' (k4.sane.liveS b hb)⟩) (fun j s b hj ha hb=>⟨?_,qJ hw' (k4.sane.live _ b hb)⟩) (fun j hj=>by simp[upd,hj]) ?_
      ·unfold As0;rw[As (by simp[hj])]
       exact q5 j s b hj (k5.lt ha) hb
      ·refine⟨[.slice (some ⟨w.heap.size,0,none⟩) n n],?_,by simp[upd,yK,Ty.agg]⟩
       simp only[zX,Fl.base]
       refine⟨by simp[lV,Fl.pins],some ⟨w.heap.size,0,none⟩,n,by rw[q6],by rw[q6];exact Al _,.inr ⟨w.heap.size,0,r,rfl,by simp[As0],AN4.new hw' (.inl rfl),by rw[q2];omega,fun i y hy=>?_⟩⟩
       rw[A2]
       refine zS (fun b hb=>⟨hb,qJ hw' (q3.liveS b hb)⟩) (fun s b hb=>⟨?_,qJ hw' (q3.live _ b hb)⟩) (q7 i y hy)
       unfold As0;rw[As (by simp)];exact hb
    ·cases hk
   ·cases hk
  ·cases hk
 ·cases hk
end
end Go.Rf

end
section
namespace Go.Rf
set_option linter.unusedSectionVars false
variable [T:Laid]
section
variable {P:Program} {H:Nat→Option (List Value)} {N:Nat} {g g' σ:yL} {V V':Nat→Option Value} {w w':World} {S S':Nat→Prop} {β β':Key→Option Nat} {a:Act} {o:Oper}
variable {E:Env} {gv:yL} {us:List Up}
def BO2 (i:Nat):Key:=Bu i 1
theorem BW7 {i:Nat}:BO2 (i+1)=BO2 i++[1]:=by simp[BO2,List.replicate_succ']
theorem A2n:∀ {i j:Nat} {s:Key},i≠j→pX (BO2 i++[0]) (BO2 j++[0]++s)=none
 | 0,0,_,h=>absurd rfl h
 | 0,j+1,s,_=>by simp[BO2,Bs,pX]
 | i+1,0,s,_=>by simp[BO2,Bs,pX]
 | i+1,j+1,s,h=>by
  have:=A2n (i:=i) (j:=j) (s:=s) (by omega)
  simp only[BO2,Bs,A5,pX,Az] at this ⊢
  exact this
theorem A4I {c:List Value} {o n m:Nat}:(win c o (n+m)).take n=win c o n:=by
 simp[win,List.take_take]
theorem A4W {c:List Value} {o n m:Nat}:(win c o (n+m)).drop n=win c (o+n) m:=by
 simp only[win,Ch,BF]
 congr 1
 omega
theorem Av4 {mv:Bool} {h:Nat→Option Dat} {zc rc:List Value} {K0:Key} {ty:TypeId→Option Ty}:∀ {fs:List Field} {off:Nat} {τ:Ty} {i:Nat} {x:τ.D} {f:Fl},jZ ty fs off=some τ→Aj3 mv τ i h=some (x,f) →
  lS τ (win zc off τ.size)=true →
  (∀ (j:Nat) (fl:Field) (a:Ty),fs[j]?=some fl→ty fl.type=some a→(∀ d x,h (i+j)=some d→iP d.t a d.x=some x→zX S β H w (K0++BO2 (i+j)++[0]) a d.f x (win rc fl.offset a.size))∧(h (i+j)=none→win rc fl.offset a.size=win zc fl.offset a.size)) →
  zX S β H w (K0++BO2 i) τ f x (win rc off τ.size)
 | [],off,τ,i,x,f,hc,hb,hz,hp=>by
  simp only[jZ,Aa] at hc;subst hc
  simp only[Aj3,Aa,Af] at hb
  obtain⟨rfl,rfl⟩:=hb
  exact xD.2 (by simp[Rd,win,Ty.size])
 | fl :: fs,off,τ,i,x,f,hc,hb,hz,hp=>by
  simp only[jZ] at hc
  split at hc
  ·rename_i a ha
   split at hc
   ·rename_i ho
    simp only[A3] at ho
    simp only[Ab] at hc
    obtain⟨τ',hc,rfl⟩:=hc
    simp only[Aj3] at hb
    split at hb
    ·rename_i y gf hb'
     simp only[lS,Ty.size,Ad] at hz
     rw[A4I,A4W] at hz
     have ih:=Av4 hc hb' hz.2 (fun j fl' a' h1 h2=>by
      have:=hp (j+1) fl' a' (by simpa using h1) h2
      rw[show i+(j+1)=i+1+j by omega] at this
      exact this)
     rw[BW7,← List.append_assoc] at ih
     have h0:=hp 0 fl a rfl ha
     rw[Ay,ho] at h0
     split at hb
     ·rename_i d hd
      simp only[Ab,Af] at hb
      obtain⟨x0,hx0,rfl,rfl⟩:=hb
      refine oT.2 ⟨?_,?_⟩
      ·simp only[Ty.size];rw[A4I];exact h0.1 d x0 hd hx0
      ·simp only[Ty.size];rw[A4W];exact ih
     ·rename_i hd
      simp only[Aa,Af] at hb
      obtain⟨rfl,rfl⟩:=hb
      refine oT.2 ⟨?_,?_⟩
      ·simp only[Ty.size];rw[A4I,h0.2 hd];exact mA mv hz.1
      ·simp only[Ty.size];rw[A4W];exact ih
    ·cases hb
   ·cases hc
  ·cases hc
theorem A1Y {ty:TypeId→Option Ty}:∀ {fs:List Field} {off:Nat} {τ:Ty} {i:Nat} {a:Ty},jZ ty fs off=some τ→aP τ i=some a →
  ∃ fl,fs[i]?=some fl∧ty fl.type=some a∧off≤fl.offset∧fl.offset+a.size≤off+τ.size
 | [],off,τ,i,a,hc,hf=>by
  simp only[jZ,Aa] at hc;subst hc
  simp[aP] at hf
 | fl :: fs,off,τ,i,a,hc,hf=>by
  simp only[jZ] at hc
  split at hc
  ·rename_i a0 ha
   split at hc
   ·rename_i ho
    simp only[A3] at ho
    simp only[Ab] at hc
    obtain⟨τ',hc,rfl⟩:=hc
    cases i with
    | zero=>
     simp only[aP,Aa] at hf;subst hf
     exact⟨fl,rfl,ha,by omega,by simp only[Ty.size];omega⟩
    | succ i=>
     simp only[aP] at hf
     obtain⟨fl',h1,h2,h3,h4⟩:=A1Y hc hf
     exact⟨fl',by simpa using h1,h2,by omega,by simp only[Ty.size];omega⟩
   ·cases hc
  ·cases hc
theorem AG8 {ty:TypeId→Option Ty}:∀ {fs:List Field} {off:Nat} {τ:Ty} {i j:Nat} {fi fj:Field} {ai:Ty},jZ ty fs off=some τ→i < j→fs[i]?=some fi→fs[j]?=some fj→ty fi.type=some ai→fi.offset+ai.size≤fj.offset
 | [],_,_,_,_,_,_,_,_,_,h,_,_=>by simp at h
 | fl :: fs,off,τ,i,j,fi,fj,ai,hc,hij,hi,hj,ha=>by
  simp only[jZ] at hc
  split at hc
  ·rename_i a0 ha0
   split at hc
   ·rename_i ho
    simp only[A3] at ho
    simp only[Ab] at hc
    obtain⟨τ',hc,rfl⟩:=hc
    cases j with
    | zero=>omega
    | succ j=>
     simp only[AB] at hj
     cases i with
     | zero=>
      simp only[Ao,Aa] at hi;subst hi
      rw[ha0] at ha;cases ha
      have:∀ {fs:List Field} {off:Nat} {τ:Ty} {j:Nat} {fj:Field},jZ ty fs off=some τ→fs[j]?=some fj→off≤fj.offset:=by
       intro fs
       induction fs with
       | nil=>intro off τ j fj _ h;simp at h
       | cons f0 fs ih=>
        intro off τ j fj hc h
        simp only[jZ] at hc
        split at hc
        ·split at hc
         ·rename_i ho
          simp only[A3] at ho
          simp only[Ab] at hc
          obtain⟨τ',hc,rfl⟩:=hc
          cases j with
          | zero=>simp only[Ao,Aa] at h;subst h;omega
          | succ j=>have:=ih hc (by simpa using h);omega
         ·cases hc
        ·cases hc
      have:=this hc hj
      omega
     | succ i=>exact AG8 (i:=i) (j:=j) hc (by omega) (by simpa using hi) hj ha
   ·cases hc
  ·cases hc
theorem Ay5 {d:Nat}:∀ {fs:List Field} {off:Nat} {τ:Ty},jZ (tyN P (d+1)) fs off=some τ→∃ pl:List (Nat × Nat),fs.mapM (fun f=>(P.info? f.type).map fun i=>(f.offset,i.size))=some pl ∧
  ∀ (j:Nat) (fl:Field) (a:Ty),fs[j]?=some fl→tyN P (d+1) fl.type=some a→pl[j]?=some (fl.offset,a.size)
 | [],_,_,_=>⟨[],by simp,by simp⟩
 | fl :: fs,off,τ,hc=>by
  simp only[jZ] at hc
  split at hc
  ·rename_i a0 ha0
   split at hc
   ·simp only[Ab] at hc
    obtain⟨τ',hc,rfl⟩:=hc
    obtain⟨pl,h1,h2⟩:=Ay5 hc
    obtain⟨i,u,e1,_,e3,_⟩:=kF ha0
    refine⟨(fl.offset,i.size) :: pl,by simp[List.mapM_cons,e1,h1],fun j f a hj ha=>?_⟩
    cases j with
    | zero=>
     simp only[Ao,Aa] at hj ⊢;subst hj
     rw[ha0] at ha;cases ha;rw[e3]
    | succ j=>simpa using h2 j f a (by simpa using hj) ha
   ·cases hc
  ·cases hc
end
end Go.Rf

end
section
namespace Go.Rf
set_option linter.unusedSectionVars false
variable [T:Laid]
section
variable {P:Program} {H:Nat→Option (List Value)} {N:Nat} {g g' σ:yL} {V V':Nat→Option Value} {w w':World} {S S':Nat→Prop} {β β':Key→Option Nat} {a:Act} {o:Oper}
variable {E:Env} {gv:yL} {us:List Up}
theorem A3I {ρ:Operand→Value} {t:TypeId} {ps:Array (Nat × Operand)} {r:Array Value} {l:List (Nat × Value)} (ho:o.op=.build t ps) (hl:(ps.map fun (i,x)=>(i,ρ x)).toList=l) (hb:P.built t l=some r):
  (execOp ρ o).run P w=.ok (.value (.agg r)) w:=by
 have:=run_build (P:=P) w t (ps.map fun (i,x)=>(i,ρ x)) r (by rw[hl];exact hb)
 simp only[execOp,ho,Sem.run_bind]
 exact AX (fun r:Result Value=>Result.andThen r fun v w'=>Result.ok (Next.value v) w') this
theorem Bg1 {t:TypeId} {τ:Ty} (h:E.tz t=some τ):∃ it z,E.P.info? t=some it∧it.zero=some z∧lS τ z.cells.toList=true:=by
 unfold Env.tz at h
 split at h
 ·split at h
  ·rename_i hz
   simp only[Aa] at h;subst h
   unfold Env.zok at hz
   split at hz
   ·rename_i i hi
    split at hz
    ·rename_i v hv
     exact⟨i,v,hi,hv,hz⟩
    ·cases hz
   ·cases hz
  ·cases h
 ·cases h
theorem A5w {d:Nat} {t:Ty} {x:t.D} {f:Fl} {r:Array Value} {S1 S2:Nat→Prop} {β1 β2:Key→Option Nat} (hc:Ctx P H S β a w o g) (ho:o.dst=some d) (hr:(execOp a.eval o).run P w=.ok (.value (.agg r)) w) (hag:t.agg=true)
  (h:Rel H a.tmps.size (g.ups us) (vals a) w S1 β1) (hD:yW a.tmps.size (g.ups us)) (hst:Step w S β w S1 β1) (hs:Sane w S2 β2) (hst2:Step w S1 β1 w S2 β2)
  (hβ:∀ j s b,j≠d→j < a.tmps.size→β1 (j :: s)=some b→β2 (j :: s)=some b) (hv:zX S2 β2 H w [d] t f x r.toList):yY P H S β a w o (g.ups (us++[.put d (.dat ⟨t,x,f⟩)])):=by
 intro K Q hK
 have hd:=wP hc.opIn ho
 refine rZ hr (hK _ _ S2 β2 uD xL ?_ (hst.trans hst2))
 rw[ho,tG hd,xS]
 refine h.put hs (fun b hb=>⟨hst2.keepS b hb,rfl⟩) (fun j s b hj ha hb=>⟨hβ j s b hj (hD.lt ha) hb,rfl⟩) (fun j hj=>by simp[upd,hj]) ⟨r.toList,hv,?_⟩
 simp[upd,yK,hag]
theorem A5f {mv:Bool} {t:TypeId} {ps:Array (Nat × Operand)} (hc:Ctx E.P H S β a w o g) (hs:Sub gv g) (hm:o.op=.build t ps)
  (hk:A2j E gv mv o t ps some=some us):yY E.P H S β a w o (g.ups us):=by
 have hops:∀ q ∈ ps.toList,q.2 ∈ o.op.operands.toList:=fun q hq=>by rw[hm];simp only[Ce,AY];exact AN.2 ⟨q,hq,rfl⟩
 unfold A2j at hk
 split at hk
 ·rename_i n τ ht
  obtain⟨it,z,hit,hz,hzc⟩:=Bg1 ht
  have hty:=(Bd6 ht).1
  split at hk
  ·rename_i ds us1 htp
   split at hk
   ·rename_i hcond
    simp only[Ad] at hcond
    obtain⟨hnd,hlt⟩:=hcond
    split at hk
    ·rename_i xs f hl hmf
     obtain⟨dd,ho,rfl⟩:=xA hk
     obtain⟨e,he,h7⟩:=A1G hty
     obtain⟨ie,u,h71,_,h73,_⟩:=kF h7
     simp only[lS] at hzc
     obtain⟨hz1,hz2⟩:=A4E (fun c hc=>yC (mA (S:=fun _=>False) (β:=fun _=>none) (H:=fun _=>none) (w:=w) false (k:=[]) hc)) hzc
     obtain⟨S1,β1,g1,V1,cs,k1,k2,k3,k4,k5,k6⟩:=AL2 hc hs htp hops
     have hd:=wP hc.opIn ho
     obtain⟨r,S2,β2,q1,q2,q3,q4,q5,q6,q7⟩:=A65 (d:=dd) (Z:=z.cells) k1 k3 (Al _) hd hnd hlt hl hmf (by simpa using hz1) hz2
     have hbuilt:E.P.built t (AB7 ds cs)=some r:=by
      unfold Program.built
      rw[hit,he]
      simp only[hz,h71,h73]
      exact q1
     refine A5w hc ho (A3I hm k6 hbuilt) rfl k4 k5 k2 q3 q4 q5 (AQ6.2 ⟨q6,by simpa using q2,fun i y hy=>q7 i y hy⟩)
    ·cases hk
   ·cases hk
  ·cases hk
 ·rename_i τ hnot ht
  obtain⟨it,z,hit,hz,hzc⟩:=Bg1 ht
  have hty:=(Bd6 ht).1
  split at hk
  ·rename_i ds us1 htp
   split at hk
   ·rename_i hcond
    simp only[Ad] at hcond
    obtain⟨hnd,hfld⟩:=hcond
    split at hk
    ·rename_i x f hb
     obtain⟨dd,ho,rfl⟩:=xA hk
     have hstruct:∃ fs,E.P.underlying t=some (.struct fs)∧jZ (tyN E.P 7) fs.toList 0=some τ∧τ.agg=true:=by
      obtain⟨i,u,_,h2,_,h4⟩:=kF hty
      unfold kJ at h4
      have nob:∀ τ:Ty,(∀ a b,τ≠.pair a b)→τ≠.unit→∀ (x:τ.D) f,Aj3 mv τ 0 (cG ds)≠some (x,f):=fun τ h1 h2 x f e=>by
       cases τ<;>simp[Aj3] at e<;>first|exact h2 rfl|exact h1 _ _ rfl
      cases u<;>simp only at h4<;>first
       | (exfalso;exact h4)
       | (subst h4;exact absurd hb (nob _ (by simp) (by simp) _ _))
       | (obtain⟨a,_,rfl⟩:=h4;exact absurd hb (nob _ (by simp) (by simp) _ _))
       | (refine⟨_,h2,h4,?_⟩;rcases lF h4 with rfl|⟨_,_,rfl⟩<;>rfl)
     obtain⟨fs,hfs,hch,hag⟩:=hstruct
     obtain⟨S1,β1,g1,V1,cs,k1,k2,k3,k4,k5,k6⟩:=AL2 hc hs htp hops
     have hd:=wP hc.opIn ho
     obtain⟨pl,hpl1,hpl2⟩:=Ay5 (d:=6) hch
     have hzl:z.cells.toList.length=τ.size:=yC (mA (S:=fun _=>False) (β:=fun _=>none) (H:=fun _=>none) (w:=w) false (k:=[]) hzc)
     have buildT:∀ {τ:Ty} {i j:Nat} {x:τ.D} {f:Fl} {a:Ty} {d:Dat},Aj3 mv τ i (cG ds)=some (x,f)→aP τ j=some a→cG ds (i+j)=some d→d.t=a:=by
      intro τ
      induction τ with
      | pair s u _ ihu=>
       intro i j x f a d hb hf hp
       simp only[Aj3] at hb
       split at hb
       ·rename_i y gf hb'
        cases j with
        | zero=>
         simp only[aP,Aa] at hf;subst hf
         rw[Ay] at hp
         rw[hp] at hb
         simp only[Ab] at hb
         obtain⟨x0,hx0,_⟩:=hb
         exact (tD hx0).1
        | succ j=>
         simp only[aP] at hf
         exact ihu hb' hf (by rw[show i+1+j=i+(j+1) by omega];exact hp)
       ·cases hb
      | _=>intro i j x f a d hb hf hp;simp[aP] at hf
     have hpart:∀ (j:Nat) (p:Nat × Dat),ds[j]?=some p→cG ds p.1=some p.2:=by
      intro j p hj
      cases he:cG ds p.1 with
      | none=>exact absurd rfl (AI3 he p (Aw hj))
      | some e=>
       obtain⟨j',p',h1,h2,h3⟩:=AJ5 he
       have hi1:=(Ae.1 h1)
       have hi2:=(Ae.1 hj)
       have hpw:=Au.1 (gM hnd)
       by_cases e':j'=j
       ·subst e';rw[h1] at hj;cases hj;rw[h3]
       ·exfalso
        rcases AQ e' with hlt2|hlt2
        ·have:=hpw j' j (by simp;exact hi1.1) (by simp;exact hi2.1) hlt2
         simp only[AH] at this
         rw[hi1.2,hi2.2] at this;exact this h2
        ·have:=hpw j j' (by simp;exact hi2.1) (by simp;exact hi1.1) hlt2
         simp only[AH] at this
         rw[hi1.2,hi2.2] at this;exact this h2.symm
     have hfield:∀ (j:Nat) (p:Nat × Dat),ds[j]?=some p→∃ fl,fs.toList[p.1]?=some fl∧tyN E.P 7 fl.type=some p.2.t∧fl.offset+p.2.t.size≤τ.size∧pl[p.1]?=some (fl.offset,p.2.t.size):=by
      intro j p hj
      have:=AI.1 hfld p (Aw hj)
      obtain⟨a0,ha0⟩:=B3.1 this
      have hta:=buildT hb ha0 (by rw[A2];exact hpart j p hj)
      rw[← hta] at ha0
      obtain⟨fl,h1,h2,_,h4⟩:=A1Y hch ha0
      exact⟨fl,h1,h2,by omega,hpl2 _ fl _ h1 h2⟩
     obtain⟨β2,q1,q2,q3,q4⟩:=A50 (dst:=fun i=>dd :: (BO2 i++[0])) k1 k3 hd (Al _) hnd (fun i=>⟨_,rfl⟩) (fun i j s hij=>by
      have:=A2n (s:=s) hij
      simp only[A5,pX,Az]
      exact this)
     have hone:∀ (j:Nat) (p:Nat × Dat) (c:List Value),ds[j]?=some p→cs[j]?=some c→(yK p.2.t c).cells=c.toArray∧c.length=p.2.t.size:=fun j p c h1 h2=>A1D k1 k3 h1 h2
     obtain⟨r,r1,r2,r3,r4⟩:=A7J (place:=(pl.toArray[·]?)) (ps:=AB7 ds cs) (cells:=z.cells) (fun p hp=>by
      obtain⟨j,q,c,h1,h2,rfl⟩:=AX2 hp
      obtain⟨e1,e2⟩:=hone j q c h1 h2
      obtain⟨fl,f1,f2,f3,f4⟩:=hfield j q h1
      refine⟨fl.offset,?_,?_⟩
      ·simp only[e1];simpa[e2] using f4
      ·simp only[e1];simp only[AW,e2]
       have:z.cells.size=τ.size:=by simpa using hzl
       omega) (by
      unfold AB7
      rw[B0,Au]
      intro i j hi hj hij
      simp only[BA] at hi hj
      simp only[B5]
      have hne:(ds[i]'(by omega)).1≠(ds[j]'(by omega)).1:=by
       intro e
       have:=(Au.1 (gM hnd)) i j (by simp;omega) (by simp;omega) hij
       simp only[AH] at this
       exact this e
      obtain⟨fl,f1,f2,f3,f4⟩:=hfield i (ds[i]'(by omega)) (A1 _)
      obtain⟨fl',f1',f2',f3',f4'⟩:=hfield j (ds[j]'(by omega)) (A1 _)
      intro o1 s1 o2 s2 h1 h2
      simp only[AK] at h1 h2
      rw[f4] at h1
      rw[f4'] at h2
      simp only[Aa,Af] at h1 h2
      obtain⟨rfl,rfl⟩:=h1
      obtain⟨rfl,rfl⟩:=h2
      rcases AQ hne with hl|hl
      ·exact .inl (AG8 hch hl f1 f1' f2)
      ·exact .inr (AG8 hch hl f1' f1 f2'))
     have hbuilt:E.P.built t (AB7 ds cs)=some r:=by
      unfold Program.built
      rw[hit,hfs]
      simp only[hz,hpl1]
      exact r1
     have hwz:win z.cells.toList 0 τ.size=z.cells.toList:=by rw[← hzl];exact AE4 _
     have hrl:r.toList.length=τ.size:=by rw[← hzl];simpa using r2
     have hv:=Av4 (S:=S1) (β:=β2) (H:=H) (w:=w) (mv:=mv) (zc:=z.cells.toList) (rc:=r.toList) (K0:=[dd]) (i:=0) hch hb (by rw[hwz];exact hzc) (fun j fl a hj ha=>by
      rw[A2]
      refine⟨fun d x hd' hx=>?_,fun hnone=>?_⟩
      ·obtain⟨j',p,h1,h2,h3⟩:=AJ5 hd'
       have hjc:∃ c,cs[j']?=some c:=by
        have:=(Ae.1 h1).1
        exact⟨cs[j']'(by rw[k3.1];exact this),A1 _⟩
       obtain⟨c,hcc⟩:=hjc
       obtain⟨e1,e2⟩:=hone j' p c h1 hcc
       obtain⟨fl',f1,f2,f3,f4⟩:=hfield j' p h1
       rw[h2] at f1 f4
       rw[hj] at f1
       cases f1
       rw[ha] at f2
       have hta:a=p.2.t:=Ap f2
       have hwin:=r3 (p.1,yK p.2.t c) (by
        unfold AB7
        rw[AN]
        refine⟨(p,c),?_,rfl⟩
        exact Aw (i:=j') (by simp only[A6];exact⟨h1,hcc⟩)) fl.offset p.2.t.size (by simpa[h2] using f4)
       simp only[e1] at hwin
       have hvp:=q4 j' p c h1 hcc
       simp only[h2] at hvp
       subst h3
       obtain⟨pi,pt,px,pf⟩:=p
       simp only at *
       subst hta
       obtain⟨het,hex⟩:=tD hx
       rw[hwin]
       have hxe:x=px:=by rw[hex]
       rw[hxe]
       simpa using hvp
      ·refine r4 _ _ (fun p hpm off s hpls=>?_)
       obtain⟨j',q,c,h1,h2,rfl⟩:=AX2 hpm
       obtain⟨fl',f1,f2,f3,f4⟩:=hfield j' q h1
       simp only[AK] at hpls
       rw[f4] at hpls
       simp only[Aa,Af] at hpls
       obtain⟨rfl,rfl⟩:=hpls
       have hne:q.1≠j:=AI3 hnone q (Aw h1)
       rcases AQ hne with hl|hl
       ·exact .inr (AG8 hch hl f1 hj f2)
       ·exact .inl (AG8 hch hl hj f1 ha))
     rw[show win r.toList 0 τ.size=r.toList by rw[← hrl];exact AE4 _] at hv
     exact A5w hc ho (A3I hm k6 hbuilt) hag k4 k5 k2 q1 q2 q3 (by simpa[BO2] using hv)
    ·cases hk
   ·cases hk
  ·cases hk
 ·cases hk
end
end Go.Rf

end
section
namespace Go.Rf
set_option linter.unusedSectionVars false
variable [T:Laid]
section
variable {S:Nat→Prop} {β:Key→Option Nat} {H:Nat→Option (List Value)} {w w':World} {b₀ o₀ o len cap:Nat} {cd:List Value}
structure Behind (S:Nat→Prop) (β:Key→Option Nat) (w w':World) (kp:Key) (b₀ o₀:Nat) (cd:List Value):Prop where
 chg:Chg w w' b₀ o₀ cd
 own:∀ key,β key=some b₀→key=kp
 nS:¬ S b₀
theorem Behind.keep {kp:Key} (h:Behind S β w w' kp b₀ o₀ cd):∀ b,S b→S b∧w'.heap[b]?=w.heap[b]?:=fun b hb=>⟨hb,h.chg.other b fun e=>h.nS (e▸hb)⟩
theorem Behind.aside {kp k:Key} (h:Behind S β w w' kp b₀ o₀ cd) (hk:∀ s,k++s≠kp):∀ s b,β (k++s)=some b→β (k++s)=some b∧w'.heap[b]?=w.heap[b]?:=fun s b hb=>
 ⟨hb,h.chg.other b fun e=>hk s (h.own _ (e▸hb))⟩
theorem AW1:∀ {p:List PS} {t:Ty} {f:Fl} {x:t.D} {k:Key} {L:Loc} {c:List Value} {τ:Ty} {xs:List τ.D} {g:Fl} {L':Loc},
  xQ p t f x=some ⟨.sl τ,xs,g⟩→g.base=.own .sh→inB p t x→zG w t.size L=some c→zX S β H w k t f x c→tJ w t L p=some (.sl τ,L')→zG w 1 L'=some [.slice (some ⟨b₀,o,none⟩) len cap]→o+len * τ.size≤o₀ →
  Behind S β w w' (k++wL p) b₀ o₀ cd→zX S β H w' k t f x c
 | [],t,f,x,k,L,c,τ,xs,g,L',hg,hgb,hb,hc,hv,hw,hL,ho,hB=>by
  simp only[xQ,Aa] at hg
  cases hg
  simp only[tJ,Aa,Af,AS] at hw
  subst hw
  have hcl:=hJ hc
  simp only[Ty.size] at hc
  rw[hL] at hc
  simp only[Aa] at hc
  subst hc
  simp only[zX] at hv ⊢
  refine⟨hv.1,?_⟩
  replace hv:=hv.2
  rw[hgb] at hv ⊢
  obtain⟨ad,cap',e,hlc,hv⟩:=hv
  simp only[Ak,AM,Bg] at e
  obtain⟨rfl,rfl,rfl⟩:=e
  refine⟨_,_,rfl,hlc,hv.imp id ?_⟩
  rintro⟨b,oo,cs,e,hk,hob,hz,hv⟩
  simp only[Aa,Cn,Bg] at e
  obtain⟨rfl,rfl⟩:=e
  obtain⟨cs',hB',hz',hcs,hle⟩:=hB.chg.size hob
  refine⟨_,_,cs',rfl,hk,hB',by rw[hz'];exact hz,fun i y hy=>?_⟩
  have hi:i < Ag xs:=by unfold nth at hy;exact (Ae.1 hy).1
  have hlt:(i+1) * τ.size≤Ag xs * τ.size:=Ac _ hi
  rw[Ah,Av] at hlt
  rw[hcs,tN (by simpa using hle) (.inl (by omega))]
  have:=hv i y hy
  rw[xD] at this ⊢
  exact yA hB.keep this
 | .fst :: p,.pair s u,f,x,k,L,c,τ,xs,g,L',hg,hgb,hb,hc,hv,hw,hL,ho,hB=>by
  simp only[xQ] at hg
  have hne:=lO hg (by rw[hgb];simp)
  have hpar:=uG hv
  have h1:=hpar.1
  rw[lU] at h1
  have hkey:k++wL (.fst :: p)=(k++[0])++wL p:=by simp[wL]
  have ih:=AW1 hg hgb (by simpa[inB] using hb) (yJ (i:=0) (m:=s.size) hc (by simp[Ty.size])) h1 (by simpa[tJ,wX] using hw) hL ho (hkey▸hB)
  rw[← lU] at ih
  have h2:=zS hB.keep (hB.aside (k:=k++[1]) (fun q=>by simp[wL])) hpar.2
  rcases Aw4 hne with hf|⟨f1,f2,hf⟩
  ·have:=eO (p:=p) (by rw[AB1,hf];rfl) hg
   rw[hgb] at this;cases this
  ·simp only[zX] at hv ⊢
   refine⟨hv.1,?_⟩
   rw[AB1,hf] at ih
   rw[AD6,hf] at h2
   rw[hf];exact⟨ih,h2⟩
 | .snd :: p,.pair s u,f,x,k,L,c,τ,xs,g,L',hg,hgb,hb,hc,hv,hw,hL,ho,hB=>by
  simp only[xQ] at hg
  have hne:=lO hg (by rw[hgb];simp)
  have hpar:=uG hv
  have hl:=yC hv
  have h1:=hpar.2
  rw[lQ (by simpa[Ty.size] using hl)] at h1
  have hkey:k++wL (.snd :: p)=(k++[1])++wL p:=by simp[wL]
  have ih:=AW1 hg hgb (by simpa[inB] using hb) (yJ (i:=s.size) (m:=u.size) hc (by simp[Ty.size])) h1 (by simpa[tJ,wX] using hw) hL ho (hkey▸hB)
  rw[← lQ (by simpa[Ty.size] using hl)] at ih
  have h2:=zS hB.keep (hB.aside (k:=k++[0]) (fun q=>by simp[wL])) hpar.1
  rcases Aw2 hne with hf|⟨f1,f2,hf⟩
  ·have:=eO (p:=p) (by rw[AD6,hf];rfl) hg
   rw[hgb] at this;cases this
  ·simp only[zX] at hv ⊢
   refine⟨hv.1,?_⟩
   rw[AD6,hf] at ih
   rw[AB1,hf] at h2
   rw[hf];exact⟨h2,ih⟩
 | .der :: p,.ptr t,f,x,k,L,c,τ,xs,g,L',hg,hgb,hb,hc,hv,hw,hL,ho,hB=>by
  simp only[xQ] at hg
  have hne:=lO hg (by rw[hgb];simp)
  rcases oS hne with hf|⟨e,hf⟩
  ·have:=eO (p:=p) (by rw[lB,hf];rfl) hg
   rw[hgb] at this;cases this
  ·simp only[zX] at hv ⊢
   refine⟨hv.1,?_⟩
   replace hv:=hv.2
   rw[hf] at hv ⊢
   obtain⟨b,cs,rfl,hk,hob,hz,hv⟩:=hv
   have hbb:b≠b₀:=fun e'=>by
    have:=hB.own _ (e' ▸ hk)
    simp[wL] at this
   refine⟨b,cs,rfl,hk,hob.same (hB.chg.other b hbb),hz,?_⟩
   simp only[Ty.size] at hc
   simp only[tJ,wX,hc] at hw
   have hc':=zT (o:=0) (n:=t.size) hob.blk (by omega)
   have:win cs.toList 0 t.size=cs.toList:=by rw[← hz,← A'];exact AE4 _
   rw[this] at hc'
   have hkey:k++wL (.der :: p)=(k++[0])++wL p:=by simp[wL]
   rw[lB,hf] at hg
   exact AW1 hg hgb (by simpa[inB] using hb) hc' hv hw hL ho (hkey▸hB)
 | .idx i :: p,.arr n t,f,x,k,L,c,τ,xs,g,L',hg,hgb,hb,hc,hv,hw,hL,ho,hB=>by
  simp only[xQ] at hg
  simp only[inB] at hb
  have hne:=lO hg (by rw[hgb];simp)
  obtain⟨hx,hcl,hel⟩:=eN hne hv
  rcases Au6 hne with hf|⟨e,hf⟩
  ·have:=eO (p:=p) (by rw[AN8,hf];rfl) hg
   rw[hgb] at this;cases this
  ·have hkey:k++wL (.idx i :: p)=(k++[i])++wL p:=by simp[wL]
   have hlt:(i+1) * t.size≤n * t.size:=Ac _ hb.1
   rw[Ah] at hlt
   simp only[zX] at hv ⊢
   refine⟨hv.1,?_⟩
   rw[hf]
   refine⟨hx,hcl,fun j y hy=>?_⟩
   have hel':=hel j y hy
   rw[AN8,hf] at hel'
   simp only[Fl.a] at hel'
   by_cases hij:j=i
   ·subst hij
    have hyd:y=A9 x j t.dflt:=by
     have:=oZ (z:=t.dflt) (show j < Ag x by omega)
     rw[hy] at this;exact Ap this
    subst hyd
    simp only[tJ,wX,hb.1,Az] at hw
    rw[AN8,hf] at hg
    exact AW1 hg hgb hb.2 (yJ (i:=j * t.size) (m:=t.size) hc (by simp only[Ty.size];omega)) hel' hw hL ho (hkey▸hB)
   ·exact zS hB.keep (hB.aside (k:=k++[j]) (fun q=>by simp[wL,hij])) hel'
 | .elm i :: p,.sl t,f,x,k,L,c,τ,xs,g,L',hg,hgb,hb,hc,hv,hw,hL,ho,hB=>by
  simp only[xQ] at hg
  simp only[inB] at hb
  have hne:=lO hg (by rw[hgb];simp)
  rcases oS hne with hf|⟨e,hf⟩
  ·have:=eO (p:=p) (by rw[lB,hf];rfl) hg
   rw[hgb] at this;cases this
  ·have hkey:k++wL (.elm i :: p)=(k++[i])++wL p:=by simp[wL]
   simp only[zX] at hv ⊢
   refine⟨hv.1,?_⟩
   replace hv:=hv.2
   rw[hf] at hv ⊢
   obtain⟨ad,cap',rfl,hlc,hv⟩:=hv
   refine⟨ad,cap',rfl,hlc,hv.imp id ?_⟩
   rintro⟨b,oo,cs,rfl,hk,hob,hz,hv⟩
   have hbb:b≠b₀:=fun e'=>by
    have:=hB.own _ (e' ▸ hk)
    simp[wL] at this
   refine⟨b,oo,cs,rfl,hk,hob.same (hB.chg.other b hbb),hz,fun j y hy=>?_⟩
   by_cases hij:j=i
   ·subst hij
    have hyd:y=A9 x j t.dflt:=by
     have:=oZ (z:=t.dflt) hb.1
     rw[hy] at this;exact Ap this
    subst hyd
    simp only[Ty.size] at hc
    simp only[tJ,wX,hc,hb.1,Az] at hw
    rw[lB,hf] at hg
    have hlt:(j+1) * t.size≤cap' * t.size:=Ac _ (by have:=hb.1;omega)
    rw[Ah] at hlt
    exact AW1 hg hgb hb.2 (zT (o:=oo+j * t.size) (n:=t.size) hob.blk (by omega)) (hv j _ hy) hw hL ho (hkey▸hB)
   ·exact zS hB.keep (hB.aside (k:=k++[j]) (fun q=>by simp[wL,hij])) (hv j y hy)
theorem AZ0:∀ {q p:List PS} {t:Ty} {f:Fl} {x:t.D} {k:Key} {L:Loc} {c:List Value} {τ:Ty} {xs:List τ.D} {g:Fl} {L':Loc} {d:Dat},
  xQ q t f x=some d→d.f.base≠.gone→inB q t x →
  xQ p t f x=some ⟨.sl τ,xs,g⟩→g.base=.own .sh→inB p t x→zG w t.size L=some c→zG w' t.size L=some c→zX S β H w k t f x c→tJ w t L p=some (.sl τ,L')→zG w 1 L'=some [.slice (some ⟨b₀,o,none⟩) len cap]→o+len * τ.size≤o₀ →
  Behind S β w w' (k++wL p) b₀ o₀ cd →
  ∃ Lq cq,tJ w t L q=some (d.t,Lq)∧tJ w' t L q=some (d.t,Lq)∧zG w d.t.size Lq=some cq∧zG w' d.t.size Lq=some cq
 | [],p,t,f,x,k,L,c,τ,xs,g,L',d,hq,hqn,hqb,hg,hgb,hb,hc,hcc,hv,hw,hL,ho,hB=>by
  simp only[xQ,Aa] at hq;subst hq
  exact⟨L,c,rfl,rfl,hc,hcc⟩
 | s :: q,[],t,f,x,k,L,c,τ,xs,g,L',d,hq,hqn,hqb,hg,hgb,hb,hc,hcc,hv,hw,hL,ho,hB=>by
  simp only[xQ,Aa] at hg
  cases hg
  simp only[tJ,Aa,Af,AS] at hw
  subst hw
  cases s<;>simp only[xQ,reduceCtorEq] at hq
  rename_i i
  simp only[inB] at hqb
  have hne:f.e.base≠.gone:=lO hq hqn
  obtain⟨b,oo,cs,m,cap',rfl,him,hs,hBl,hz,hv'⟩:=A4Q hne hv (oZ (z:=τ.dflt) hqb.1)
  simp only[Ty.size] at hc hcc
  rw[hL] at hc
  simp only[Aa,Ak,AM,Cn,Bg] at hc
  obtain⟨⟨rfl,rfl⟩,rfl,rfl⟩:=hc
  have hxl:len=Ag xs:=by
   simp only[zX] at hv
   replace hv:=hv.2
   rw[hgb] at hv
   obtain⟨ad,cp,e,_⟩:=hv
   simp only[Ak,AM,Bg] at e
   exact e.2.1
  rw[Ah,Av] at hz
  have hlt:(i+1) * τ.size≤len * τ.size:=Ac _ him
  rw[Ah,Av] at hlt
  obtain⟨cs1,e1,fz1,cs1',t1,t2,t3,t4⟩:=hB.chg.this
  have hcs:cs=cs1:=hBl.inj ⟨e1,fz1,t1⟩
  subst hcs
  have hsz:cs1'.size=cs.size:=by
   have:=AX Ag t3
   rw[oG (by simpa using t4)] at this
   simpa using this
  have hc1:=zT (o:=o+i * τ.size) (n:=τ.size) hBl (by omega)
  have hc2:zG w' τ.size (.mem b₀ (o+i * τ.size))=some (win cs.toList (o+i * τ.size) τ.size):=by
   rw[zT (o:=o+i * τ.size) (n:=τ.size) ⟨e1,fz1,t2⟩ (by omega),t3,tN (by simpa using t4) (.inl (by omega))]
  obtain⟨Lq,cq,h1,h2,h3,h4,_⟩:=nW (fun b hb=>(hB.keep b hb).2) (k:=k++[i]) (fun s b hb=>(hB.aside (k:=k++[i]) (fun q=>by simp[wL]) s b hb).2) hq hqb.2 hqn hc1 hc2 hv'
  exact⟨Lq,cq,by simp only[tJ,wX,hL,him,Az];exact h1,by simp only[tJ,wX,hcc,him,Az];exact h2,h3,h4⟩
 | r :: q,s :: p,t,f,x,k,L,c,τ,xs,g,L',d,hq,hqn,hqb,hg,hgb,hb,hc,hcc,hv,hw,hL,ho,hB=>by
  cases r<;>cases t<;>cases s<;>(try simp only[xQ,reduceCtorEq] at hq)<;>(try simp only[xQ,reduceCtorEq] at hg)
  case fst.pair.fst=>
   rename_i a b
   have h1:=(uG hv).1
   rw[lU] at h1
   obtain⟨Lq,cq,k1,k2,k3,k4⟩:=AZ0 (k:=k++[0]) hq hqn (by simpa[inB] using hqb) hg hgb (by simpa[inB] using hb) (yJ (i:=0) (m:=a.size) hc (by simp[Ty.size])) (yJ (i:=0) (m:=a.size) hcc (by simp[Ty.size])) h1 (by simpa[tJ,wX] using hw) hL ho (by simpa[wL] using hB)
   exact⟨Lq,cq,by simpa[tJ,wX] using k1,by simpa[tJ,wX] using k2,k3,k4⟩
  case snd.pair.snd=>
   rename_i a b
   have hl:=yC hv
   have h1:=(uG hv).2
   rw[lQ (by simpa[Ty.size] using hl)] at h1
   obtain⟨Lq,cq,k1,k2,k3,k4⟩:=AZ0 (k:=k++[1]) hq hqn (by simpa[inB] using hqb) hg hgb (by simpa[inB] using hb) (yJ (i:=a.size) (m:=b.size) hc (by simp[Ty.size])) (yJ (i:=a.size) (m:=b.size) hcc (by simp[Ty.size])) h1 (by simpa[tJ,wX] using hw) hL ho (by simpa[wL] using hB)
   exact⟨Lq,cq,by simpa[tJ,wX] using k1,by simpa[tJ,wX] using k2,k3,k4⟩
  case fst.pair.snd=>
   rename_i a b
   have h1:=(uG hv).1
   rw[lU] at h1
   obtain⟨Lq,cq,k1,k2,k3,k4,_⟩:=nW (fun b hb=>(hB.keep b hb).2) (k:=k++[0]) (fun s b hb=>(hB.aside (k:=k++[0]) (fun q=>by simp[wL]) s b hb).2) hq (by simpa[inB] using hqb) hqn (yJ (i:=0) (m:=a.size) hc (by simp[Ty.size])) (yJ (i:=0) (m:=a.size) hcc (by simp[Ty.size])) h1
   exact⟨Lq,cq,by simpa[tJ,wX] using k1,by simpa[tJ,wX] using k2,k3,k4⟩
  case snd.pair.fst=>
   rename_i a b
   have hl:=yC hv
   have h1:=(uG hv).2
   rw[lQ (by simpa[Ty.size] using hl)] at h1
   obtain⟨Lq,cq,k1,k2,k3,k4,_⟩:=nW (fun b hb=>(hB.keep b hb).2) (k:=k++[1]) (fun s b hb=>(hB.aside (k:=k++[1]) (fun q=>by simp[wL]) s b hb).2) hq (by simpa[inB] using hqb) hqn (yJ (i:=a.size) (m:=b.size) hc (by simp[Ty.size])) (yJ (i:=a.size) (m:=b.size) hcc (by simp[Ty.size])) h1
   exact⟨Lq,cq,by simpa[tJ,wX] using k1,by simpa[tJ,wX] using k2,k3,k4⟩
  case der.ptr.der=>
   rename_i t
   have hne:=lO hg (by rw[hgb];simp)
   rcases oS hne with hf|⟨e,hf⟩
   ·have:=eO (p:=p) (by rw[lB,hf];rfl) hg
    rw[hgb] at this;cases this
   ·have hv0:=hv
    simp only[zX] at hv0
    replace hv0:=hv0.2
    rw[hf] at hv0
    obtain⟨b,cs,rfl,hk,hob,hz,hv1⟩:=hv0
    have hbb:b≠b₀:=fun e'=>by
     have:=hB.own _ (e' ▸ hk)
     simp[wL] at this
    simp only[Ty.size] at hc hcc
    simp only[tJ,wX,hc] at hw
    have hc':=zT (o:=0) (n:=t.size) hob.blk (by omega)
    have hcc':=zT (w:=w') (o:=0) (n:=t.size) (hob.same (hB.chg.other b hbb)).blk (by omega)
    have:win cs.toList 0 t.size=cs.toList:=by rw[← hz,← A'];exact AE4 _
    rw[this] at hc' hcc'
    rw[lB,hf] at hg hq
    obtain⟨Lq,cq,k1,k2,k3,k4⟩:=AZ0 (k:=k++[0]) hq hqn (by simpa[inB] using hqb) hg hgb (by simpa[inB] using hb) hc' hcc' hv1 hw hL ho (by simpa[wL] using hB)
    exact⟨Lq,cq,by simp only[tJ,wX,hc];exact k1,by simp only[tJ,wX,hcc];exact k2,k3,k4⟩
  case idx.arr.idx=>
   rename_i i n t j
   simp only[inB] at hqb hb
   have hne:=lO hg (by rw[hgb];simp)
   obtain⟨hx,hcl,hel⟩:=eN hne hv
   have hlt:(i+1) * t.size≤n * t.size:=Ac _ hqb.1
   rw[Ah] at hlt
   have hc1:=yJ (i:=i * t.size) (m:=t.size) hc (by simp only[Ty.size];omega)
   have hc2:=yJ (i:=i * t.size) (m:=t.size) hcc (by simp only[Ty.size];omega)
   have hvi:=hel i _ (oZ (z:=t.dflt) (by omega))
   by_cases hij:i=j
   ·subst hij
    simp only[tJ,wX,hb.1,Az] at hw
    obtain⟨Lq,cq,k1,k2,k3,k4⟩:=AZ0 (k:=k++[i]) hq hqn hqb.2 hg hgb hb.2 hc1 hc2 hvi hw hL ho (by simpa[wL] using hB)
    exact⟨Lq,cq,by simp only[tJ,wX,hqb.1,Az];exact k1,by simp only[tJ,wX,hqb.1,Az];exact k2,k3,k4⟩
   ·obtain⟨Lq,cq,k1,k2,k3,k4,_⟩:=nW (fun b hb=>(hB.keep b hb).2) (k:=k++[i]) (fun s b hb=>(hB.aside (k:=k++[i]) (fun q=>by simp[wL,hij]) s b hb).2) hq hqb.2 hqn hc1 hc2 hvi
    exact⟨Lq,cq,by simp only[tJ,wX,hqb.1,Az];exact k1,by simp only[tJ,wX,hqb.1,Az];exact k2,k3,k4⟩
  case elm.sl.elm=>
   rename_i i t j
   simp only[inB] at hqb hb
   have hne:=lO hg (by rw[hgb];simp)
   rcases oS hne with hf|⟨e,hf⟩
   ·have:=eO (p:=p) (by rw[lB,hf];rfl) hg
    rw[hgb] at this;cases this
   ·have hv0:=hv
    simp only[zX] at hv0
    replace hv0:=hv0.2
    rw[hf] at hv0
    obtain⟨ad,cap',rfl,hlc,hv0⟩:=hv0
    rcases hv0 with hv0|⟨b,oo,cs,rfl,hk,hob,hz,hv1⟩
    ·have:=hqb.1;omega
    ·have hbb:b≠b₀:=fun e'=>by
      have:=hB.own _ (e' ▸ hk)
      simp[wL] at this
     simp only[Ty.size] at hc hcc
     simp only[tJ,wX,hc,hb.1,Az] at hw
     rw[lB,hf] at hg hq
     have hlt:(i+1) * t.size≤cap' * t.size:=Ac _ (by have:=hqb.1;omega)
     rw[Ah] at hlt
     have hc1:=zT (o:=oo+i * t.size) (n:=t.size) hob.blk (by omega)
     have hc2:=zT (w:=w') (o:=oo+i * t.size) (n:=t.size) (hob.same (hB.chg.other b hbb)).blk (by omega)
     have hvi:=hv1 i _ (oZ (z:=t.dflt) hqb.1)
     by_cases hij:i=j
     ·subst hij
      obtain⟨Lq,cq,k1,k2,k3,k4⟩:=AZ0 (k:=k++[i]) hq hqn hqb.2 hg hgb hb.2 hc1 hc2 hvi hw hL ho (by simpa[wL] using hB)
      exact⟨Lq,cq,by simp only[tJ,wX,hc,hqb.1,Az];exact k1,by simp only[tJ,wX,hcc,hqb.1,Az];exact k2,k3,k4⟩
     ·obtain⟨Lq,cq,k1,k2,k3,k4,_⟩:=nW (fun b hb=>(hB.keep b hb).2) (k:=k++[i]) (fun s b hb=>(hB.aside (k:=k++[i]) (fun q=>by simp[wL,hij]) s b hb).2) hq hqb.2 hqn hc1 hc2 hvi
      exact⟨Lq,cq,by simp only[tJ,wX,hc,hqb.1,Az];exact k1,by simp only[tJ,wX,hcc,hqb.1,Az];exact k2,k3,k4⟩
end
end Go.Rf

end
section
namespace Go.Rf
set_option linter.unusedSectionVars false
variable [T:Laid]
section
variable {P:Program} {S:Nat→Prop} {β:Key→Option Nat} {H:Nat→Option (List Value)} {w w':World} {E:Env}
def A8A (P:Program) (w:World) (t':TypeId) (size:Nat) (z:Array Value) (vy:Value) (m:Nat) (cy:List Value):Prop:=
 (∃ u,P.underlying t'=some u∧(∀ k,u≠.int k)∧(∀ w',(Bl vy).run P w'=.ok m w')∧∀ w',w'.heap=w.heap→(Ai size m vy).run P w'=.ok cy.toArray w') ∨
 (P.underlying t'=some (.int .i64)∧vy=.int .i64 m∧m≤1099511627776∧cy=(cK z (m * size)).toList)
theorem fS {z:Array Value} {n:Nat}:BX z n=cK z (n * z.size):=rfl
theorem A3G {b m:Nat} (hb:b≤128) (hm:m≤1099511627776):¬ ((m:Int) * (b:Int) > 2 ^ 48):=by
 have:m * b≤1099511627776 * 128:=Cj hm hb
 rw[← Int.natCast_mul]
 omega
theorem bP {t t' ty e:TypeId} {τ:Ty} {z:Value} {vy:Value} {m len cap:Nat} {cy:List Value} {base:Option Addr} (h:SlOK E t e τ z) (ha:A8A E.P w t' τ.size z.cells vy m cy) (hroom:len+m≤cap)
  (hst:∀ a,base=some a→(storeCells (a.add (len * τ.size)) cy 0).run E.P w=.ok () w') (hno:base=none→w'=w):
  (At #[t,t'] ty #[.slice base len cap,vy]).run E.P w=.ok (.slice base (len+m) cap) w':=by
 obtain⟨i,hi,hb⟩:=h.bytes
 have hsz:(sizeOf e).run E.P w=.ok τ.size w:=rK h.elem
 rcases ha with ⟨u,hu,hni,hl,hf⟩| ⟨hu,rfl,hm,rfl⟩
 ·skip
  have hf':=hf w rfl
  cases base with
  | none=>
   have:=hno rfl
   subst this
   simp[At,zE h.und,zE hu,hsz,hl,hroom,hf']
  | some a=>
   have:=hst a rfl
   simp[At,zE h.und,zE hu,hsz,hl,hroom,hf',this]
 ·have hw:IntKind.i64.wrap (m:Int)=m:=AV9 (by omega) (by omega)
  have hmul:=A3G hb hm
  have hzs:=h.size
  have e0:cK z.cells 0=#[]:=by simp[cK]
  have hn0:¬ ((m:Int) < 0):=by omega
  have hn1:¬ (281474976710656 < (m:Int) * (i.bytes:Int)):=by omega
  cases base with
  | none=>
   have:=hno rfl
   subst this
   by_cases h0:m * τ.size=0
   ·simp[At,zE h.und,zE hu,hsz,hroom,asInt,asIntOf,hw,sA hi,hn0,hn1,h0]
   ·simp[At,zE h.und,zE hu,hsz,hroom,asInt,asIntOf,hw,sA hi,hn0,hn1,h0,h.zero]
  | some a=>
   have hsa:=hst a rfl
   by_cases h0:m * τ.size=0
   ·rw[h0,e0] at hsa
    simp only[Array.toList_empty] at hsa
    simp[At,zE h.und,zE hu,hsz,hroom,asInt,asIntOf,hw,sA hi,hn0,hn1,h0,hsa]
   ·have hzc:BX z.cells m=cK z.cells (m * τ.size):=by rw[fS,hzs]
    simp[At,zE h.und,zE hu,hsz,hroom,asInt,asIntOf,hw,sA hi,hn0,hn1,h0,h.zero,hzc,hsa]
theorem Ac6 {t t' ty e:TypeId} {τ:Ty} {z:Value} {vy:Value} {m len cap:Nat} {cy co:List Value} {base:Option Addr} (h:SlOK E t e τ z) (ha:A8A E.P w t' τ.size z.cells vy m cy) (hroom:¬ len+m≤cap) (hlen:len+m≤1099511627776)
  (hold:∀ w',w'.heap=w.heap→(Ai τ.size len (.slice base len cap)).run E.P w'=.ok co.toArray w'):
  ∃ nc w',len+m≤nc∧(At #[t,t'] ty #[.slice base len cap,vy]).run E.P w=.ok (.slice (some ⟨w.heap.size,0,none⟩) (len+m) nc) w'∧Pushed w w' (.cells (co.toArray++(cy.toArray++cK z.cells ((nc - (len+m)) * τ.size))) e):=by
 obtain⟨i,hi,hb⟩:=h.bytes
 have hsz:∀ w,(sizeOf e).run E.P w=.ok τ.size w:=fun w=>rK h.elem
 have h63:¬ (9223372036854775807 < ((len:Int)+(m:Int))):=by omega
 have hfit:=growslice_fits (need:=len+m) (old:=cap) (bytes:=i.bytes) (by omega) (by
  have:(len+m) * i.bytes≤1099511627776 * 128:=Cj hlen hb
  omega)
 have h48:¬ (281474976710656 < Builtin.nextslicecap (len+m) cap * i.bytes):=by omega
 refine⟨grownCap w (len+m) cap e,w.drew.alloc (.cells (co.toArray++(cy.toArray++cK z.cells ((grownCap w (len+m) cap e - (len+m)) * τ.size))) e),grownCap_ge _ _ _ _,?_,rfl,rfl,rfl,rfl⟩
 have hold':=hold w.drew rfl
 have hzs:=h.size
 rcases ha with ⟨u,hu,hni,hl,hf⟩| ⟨hu,rfl,hm,rfl⟩
 ·skip
  have hf':=hf w.drew rfl
  simp[At,zE h.und,zE hu,hsz,hl,hroom,sA hi,h63,h48,BB,hold',hf',h.zero,newRow,grownCap,fS,hzs]
 ·have hw:IntKind.i64.wrap (m:Int)=m:=AV9 (by omega) (by omega)
  have hmul:=A3G hb hm
  have hn0:¬ ((m:Int) < 0):=by omega
  have hn1:¬ (281474976710656 < (m:Int) * (i.bytes:Int)):=by omega
  have e0:cK z.cells 0=#[]:=by simp[cK]
  by_cases h0:m * τ.size=0
  ·simp[At,zE h.und,zE hu,hsz,hroom,asInt,asIntOf,hw,sA hi,h63,h48,hn0,hn1,h0,e0,BB,hold',h.zero,newRow,grownCap,fS,hzs]
  ·simp[At,zE h.und,zE hu,hsz,hroom,asInt,asIntOf,hw,sA hi,h63,h48,hn0,hn1,h0,BB,hold',h.zero,newRow,grownCap,fS,hzs]
end
end Go.Rf

end
section
namespace Go.Rf
set_option linter.unusedSectionVars false
variable [T:Laid]
section
variable {P:Program} {H:Nat→Option (List Value)} {N:Nat} {g g' σ:yL} {V V':Nat→Option Value} {w w':World} {S S':Nat→Prop} {β β':Key→Option Nat} {a:Act} {o:Oper}
variable {E:Env} {gv:yL} {us:List Up}
structure Elems (S:Nat→Prop) (w:World) (τ:Ty) (ys:List τ.D) (cy:List Value):Prop where
 len:cy.length=ys.length * τ.size
 one:∀ v ∈ cy,v.oneCell'=true
 get:∀ j v,nth ys j=some v→Rd S w τ v (win cy (j * τ.size) τ.size)
theorem Elems.of {τ:Ty} {ys:List τ.D} {cy:List Value} (h1:cy.length=ys.length * τ.size) (h2:∀ j v,nth ys j=some v→Rd S w τ v (win cy (j * τ.size) τ.size)):Elems S w τ ys cy:=by
 refine⟨h1,fun v hv=>?_,h2⟩
 obtain⟨i,hi,hiv⟩:=BQ7 hv h1
 have ht:0 < τ.size:=by
  rcases BQ τ.size with e|e
  ·rw[e] at hi;omega
  ·exact e
 have hq:i / τ.size < ys.length:=by rw[Nat.div_lt_iff_lt_mul ht];exact hi
 refine A6g (h2 (i / τ.size) _ (oZ (z:=τ.dflt) hq)) v ?_
 have hg:(win cy (i / τ.size * τ.size) τ.size)[i % τ.size]?=some v:=by
  rw[tK,AE (Nat.mod_lt _ ht)]
  have:=Nat.div_add_mod i τ.size
  rw[Nat.mul_comm] at this
  rw[this];exact hiv
 exact Aw hg
theorem Elems.nil {τ:Ty}:Elems S w τ ([]:List τ.D) []:=⟨by simp,by simp,fun j v h=>by simp[nth] at h⟩
theorem AQ1 {n:Nat} {L:Loc} (h:w'.heap=w.heap):zG w' n L=zG w n L:=by cases L<;>simp[zG,h]
theorem A9S {τ:Ty} {ys:List τ.D} {c:List Value} (h:Rd S w (.sl τ) ys c):∃ ad cap cy,c=[.slice ad ys.length cap]∧Elems S w τ ys cy ∧
  ∀ w',w'.heap=w.heap→(Ai τ.size ys.length (.slice ad ys.length cap)).run P w'=.ok cy.toArray w':=by
 simp only[Rd] at h
 obtain⟨ad,cap,rfl,hl,h⟩:=h
 rcases h with h|⟨b,oo,cs,rfl,hS,hB,hz,h⟩
 ·subst h
  refine⟨ad,cap,[],rfl,.nil,fun w' _=>?_⟩
  cases ad with
  | none=>simp[Ai]
  | some b=>simp[Ai,AF0]
 ·refine⟨_,cap,win cs.toList oo (Ag ys * τ.size),rfl,Elems.of (lN (by simpa using hz)) (fun j v hv=>?_),fun w' hw'=>?_⟩
  ·have hj:j < Ag ys:=by unfold nth at hv;exact (Ae.1 hv).1
   have hlt:(j+1) * τ.size≤Ag ys * τ.size:=Ac _ hj
   rw[Ah,Av] at hlt
   rw[nG (by omega)]
   exact h j v hv
  ·have hc:=zT (o:=oo) (n:=Ag ys * τ.size) hB hz
   rw[← AQ1 hw'] at hc
   simp only[Ai]
   exact iL hc
theorem BU2 {n:Int} (h:zA n=true):0≤n:=by simpa[zA] using h
theorem A6v {s:List UInt8} {t':TypeId} {z:Array Value} (ht:P.underlying t'=some .string):
  Elems S w (.int .u8) (Bv (fun b:UInt8=>(b.toNat:Int)) s) (Bv (fun b:UInt8=>Value.int .u8 (b.toNat:Int)) s) ∧
  A8A P w t' (Ty.int .u8).size z (.string ⟨⟨s⟩⟩) (Bv (fun b:UInt8=>(b.toNat:Int)) s).length (Bv (fun b:UInt8=>Value.int .u8 (b.toNat:Int)) s):=by
 refine⟨Elems.of ?_ (fun j v hj=>?_),.inl ⟨_,ht,by simp,fun w'=>?_,fun w' _=>?_⟩⟩
 ·show _=(Bv (fun b:UInt8=>(b.toNat:Int)) s).length * 1
  rw[Cd,AT,AT]
 ·obtain⟨b,hb1,hb2⟩:=BS1 hj
  subst hb2
  simp only[Rd,Ty.size,Cd]
  apply AC
  intro i
  rw[tK]
  cases i with
  | zero=>rw[AE (by decide),Ay,AD,hb1];rfl
  | succ i=>rw[As (by omega)];simp
 ·rw[AT];rfl
 ·rw[AT]
  have h2:(⟨⟨s⟩⟩:ByteArray).extract 0 s.length=⟨⟨s⟩⟩:=by rw[A2q];simp
  simp only[Ai]
  rw[h2]
  simp
theorem A5i {τ:Ty} {t':TypeId} {y:Operand} {ys:List τ.D} {z:Value} (h:Rel H N g V w S β) (hs:Sub gv g) (hz:lS τ z.cells.toList=true) (hzs:z.cells.size=τ.size)
  (ha:A6Q gv τ (E.ty t') y=some (ys,us)):
  ∃ S1 β1 cy vy,Rel H N (g.ups us) V w S1 β1∧Step w S β w S1 β1∧Sub (gv.ups us) (g.ups us)∧(∀ u ∈ us,(g u.slot).sv≠.dead)∧Elems S1 w τ ys cy∧evl V y=some vy∧A8A E.P w t' τ.size z.cells vy ys.length cy:=by
 unfold A6Q at ha
 split at ha
 ·rename_i ht
  split at ha
  ·rename_i n hn
   split at ha
   ·rename_i hw
    simp only[Aj] at ha
    split at ha
    ·rename_i hcond
     simp only[Ad] at hcond
     simp only[Aa,Af] at ha
     obtain⟨rfl,rfl⟩:=ha
     have hn0:=BU2 hcond.1
     have hv:=AC5 h (hs.sv hn (by simp)) cC
     have hnn:((A0 n:Nat):Int)=n:=Int.toNat_of_nonneg hn0
     refine⟨S,β,(cK z.cells (A0 n * τ.size)).toList,_,h,.refl,hs,by simp,Elems.of (by simp[aJ]) (fun j v hj=>?_),hv,.inr ⟨A9f ht,?_,?_,?_⟩⟩
     ·have hj':(Bu (A0 n) τ.dflt)[j]?=some v:=hj
      rw[Be] at hj'
      split at hj'
      ·rename_i hjn
       simp only[Aa] at hj';subst hj'
       have:=A59 (S:=S) (β:=fun _=>none) (H:=H) (w:=w) (k:=[]) (mv:=false) hz hzs hjn
       exact uX (f:=Fl.nw false τ) hw (fun _ h=>h) (fun _ _ hb=>by cases hb) this
      ·cases hj'
     ·rw[AJ,hnn]
     ·rw[AJ];exact Ah7 hcond.2
     ·rw[AJ]
    ·cases ha
   ·cases ha
  ·cases ha
 ·rename_i τ' ht
  obtain⟨e',he',h7⟩:=Ai3 ht
  split at ha
  ·rename_i hy
   split at ha
   ·simp only[Aa,Af] at ha
    obtain⟨rfl,rfl⟩:=ha
    have hv:evl V y=some (.slice none 0 0):=by
     rcases AH4 (hs.sv hy (by simp)) with ⟨s,rfl,h'⟩| rfl
     ·have:=h.slots s
      rw[h'] at this;exact this.elim
     ·rfl
    exact⟨S,β,[],_,h,.refl,hs,by simp,.nil,hv,.inl ⟨_,he',by simp,fun w'=>by simp[Bl],fun w' _=>by simp[Ai]⟩⟩
   ·cases ha
  ·split at ha
   ·rename_i τ'' ys0 f0 hd
    simp only[Aq,Ab,Af] at ha
    obtain⟨ys1,hc,us1,hp,rfl,rfl⟩:=ha
    obtain⟨het,hex⟩:=tD hc
    cases het
    have hex:ys=ys0:=hex
    subst hex
    obtain⟨hp',hsub,halive⟩:=AB2 hs hp
    obtain⟨S1,β1,c,k1,k2,k3,k4⟩:=AM7 h hp' (rL hs hd)
    obtain⟨ad,cap,cy,rfl,q1,q2⟩:=A9S (P:=E.P) k4
    exact⟨S1,β1,cy,_,k1,k2,hsub,halive,q1,k3,.inl ⟨_,he',by simp,fun w'=>by simp[yK,Ty.agg,Bl],fun w' hw'=>q2 w' hw'⟩⟩
   ·cases ha
 ·rename_i ht
  split at ha
  ·rename_i s hy
   obtain⟨ys1,hc,hpair⟩:=Ab.1 ha
   simp only[Af] at hpair
   obtain⟨rfl,rfl⟩:=hpair
   obtain⟨het,hex⟩:=tD hc
   cases het
   have hex:ys1=Bv (fun b:UInt8=>(b.toNat:Int)) s:=hex
   subst hex
   have hv:=A9M h (hs.sv hy (by simp)) cC
   exact⟨S,β,_,_,h,.refl,hs,by simp,(A6v (P:=E.P) (z:=z.cells) (Am6 ht)).1,hv,(A6v (S:=S) (w:=w) (Am6 ht)).2⟩
  ·cases ha
 ·cases ha
end
end Go.Rf

end
section
namespace Go.Rf
set_option linter.unusedSectionVars false
variable [T:Laid]
section
variable {P:Program} {H:Nat→Option (List Value)} {N:Nat} {g g' σ:yL} {V V':Nat→Option Value} {w w':World} {S S':Nat→Prop} {β β':Key→Option Nat} {a:Act} {o:Oper}
variable {E:Env} {gv:yL} {us:List Up}
theorem Rel.touch (h:Rel H N g V w S β) {r:Nat} {e:Dat} (he:(g r).sv=.dat e):Rel H N (g.up (.pub r (.dat e))) V w S β:=by
 obtain⟨t,x,f⟩:=e
 obtain⟨c,hv,hV⟩:=h.dat he
 exact h.pub he h.sane (fun b hb=>⟨hb,rfl⟩) (fun j s b _ _ hb=>⟨hb,rfl⟩) (fun p d L cr c h1 h2 _ _ _ h4 h5=>⟨⟨d.f,h1,h2⟩,h4,h5⟩) ⟨c,hv,hV⟩
theorem AG7 {α:Type} {xs ys:List α} {i:Nat} {y:α} (h:nth (xs++ys) i=some y):(i < xs.length∧nth xs i=some y)∨(xs.length≤i∧nth ys (i - xs.length)=some y):=by
 unfold nth at *
 by_cases hi:i < xs.length
 ·rw[A7 hi] at h;exact .inl ⟨hi,h⟩
 ·rw[A4 (by omega)] at h;exact .inr ⟨by omega,h⟩
theorem Ag7 {t t' ty e:TypeId} {τ:Ty} {z:Value} {vy:Value} {xs ys:List τ.D} {cy:List Value} {ad:Option Addr} {cap:Nat} {key:Key} (hok:SlOK E t e τ z)
  (hb:zX S β H w key (.sl τ) (.own .sh) xs [.slice ad xs.length cap]) (hy:Elems S w τ ys cy) (ha:A8A E.P w t' τ.size z.cells vy ys.length cy) (hlen:xs.length+ys.length≤1099511627776) (hsep:∀ b,β key=some b→¬ S b) (hlt:∀ b,S b→b < w.heap.size):
  (∃ w',(At #[t,t'] ty #[.slice ad xs.length cap,vy]).run E.P w=.ok (.slice ad (xs.length+ys.length) cap) w' ∧
   ((w'=w∧cap=0∧xs=[]∧ys=[])∨∃ b₀ o,ad=some ⟨b₀,o,none⟩∧β key=some b₀∧Chg w w' b₀ (o+xs.length * τ.size) cy∧w'.heap.size=w.heap.size∧zX S β H w' key (.sl τ) (.own .sh) (xs++ys:List τ.D) [.slice ad (xs.length+ys.length) cap])) ∨
  (∃ w' nc ob,(At #[t,t'] ty #[.slice ad xs.length cap,vy]).run E.P w=.ok (.slice (some ⟨w.heap.size,0,none⟩) (xs.length+ys.length) nc) w'∧Pushed w w' ob ∧
   ∀ key' β',β' key'=some w.heap.size→zX S β' H w' key' (.sl τ) (.own .sh) (xs++ys:List τ.D) [.slice (some ⟨w.heap.size,0,none⟩) (xs.length+ys.length) nc]):=by
 simp only[zX,Fl.base] at hb
 obtain⟨_,ad',cap',e1,hlc,hb⟩:=hb
 simp only[Ak,AM,Bg] at e1
 obtain⟨rfl,_,rfl⟩:=e1
 by_cases hroom:xs.length+ys.length≤cap
 ·left
  rcases hb with hb|⟨b,oo,cs,rfl,hk,hob,hz,hel⟩
  ·have hx:xs=[]:=Am.1 (by omega)
   have hyy:ys=[]:=Am.1 (by omega)
   subst hx;subst hyy
   have hcy:cy=[]:=Am.1 (by have:=hy.len;simpa using this)
   subst hcy
   exact⟨w,bP hok ha hroom (fun a _=>by simp[storeCells]) (fun _=>rfl),.inl ⟨rfl,hb,rfl,rfl⟩⟩
  ·obtain⟨el,fz,hbl,hf⟩:=hob
   have hle:oo+xs.length * τ.size+cy.length≤cs.size:=by
    rw[hy.len]
    have:xs.length * τ.size+ys.length * τ.size≤cap * τ.size:=by rw[← Ah];exact Ac _ hroom
    omega
   obtain⟨w',cs',k1,k2,k3,k4,k5,k6⟩:=jF (P:=E.P) (vs:=cy) (i:=0) (o:=oo+xs.length * τ.size) hbl (fun j hj=>⟨by omega,hf.1 _ (by omega)⟩) hy.one
   rw[Ay] at k3
   have hchg:Chg w w' b (oo+xs.length * τ.size) cy:=⟨k4,⟨cs,el,fz,cs',hbl,k2,k3,hle⟩,k6⟩
   have hsz:cs'.size=cs.size:=by
    have:=AX Ag k3
    rw[oG (by simpa using hle)] at this
    simpa using this
   have hS:∀ b',S b'→S b'∧w'.heap[b']?=w.heap[b']?:=fun b' hb'=>⟨hb',k4 b' (fun e=>hsep b hk (e▸hb'))⟩
   refine⟨w',bP hok ha hroom (fun a ha'=>?_) (fun h=>by cases h),.inr ⟨b,oo,rfl,hk,hchg,k5,?_⟩⟩
   ·simp only[Aa] at ha';subst ha'
    rw[gY];exact k1
   ·simp only[zX,Fl.base]
    refine⟨by simp[lV,Fl.pins],_,cap,by rw[Ax],by rw[Ax];exact hroom,.inr ⟨b,oo,cs',rfl,hk,⟨el,fz,k2,by rw[hsz];exact hf⟩,by rw[hsz];exact hz,fun i y hi=>?_⟩⟩
    rw[xD,k3]
    rcases AG7 hi with ⟨hlt',hi⟩| ⟨hge,hi⟩
    ·have hlt2:(i+1) * τ.size≤xs.length * τ.size:=Ac _ hlt'
     rw[Ah,Av] at hlt2
     rw[tN (by simpa using hle) (.inl (by omega))]
     have:=hel i y hi
     rw[xD] at this
     exact yA hS this
    ·have hj:i - xs.length < ys.length:=by unfold nth at hi;exact (Ae.1 hi).1
     have hlt2:(i - xs.length+1) * τ.size≤ys.length * τ.size:=Ac _ hj
     rw[Ah,Av] at hlt2
     have e2:oo+i * τ.size=oo+xs.length * τ.size+(i - xs.length) * τ.size:=by
      have:i * τ.size=xs.length * τ.size+(i - xs.length) * τ.size:=by rw[← Ah];congr 1;omega
      omega
     have e3:win (dS cs.toList (oo+xs.length * τ.size) cy) (oo+i * τ.size) τ.size=win cy ((i - xs.length) * τ.size) τ.size:=by
      rw[e2,← nG (n:=cy.length) (by rw[hy.len];omega),fJ (by simpa using hle)]
     rw[e3]
     exact yA hS (hy.get _ y hi)
 ·right
  have hold:∃ co:List Value,co.length=xs.length * τ.size∧(∀ w',w'.heap=w.heap→(Ai τ.size xs.length (.slice ad xs.length cap)).run E.P w'=.ok co.toArray w')∧∀ i y,nth xs i=some y→Rd S w τ y (win co (i * τ.size) τ.size):=by
   rcases hb with hb|⟨b,oo,cs,rfl,hk,hob,hz,hel⟩
   ·have hx:xs=[]:=Am.1 (by omega)
    subst hx
    refine⟨[],by simp,fun w' _=>?_,fun i y h=>by simp[nth] at h⟩
    cases ad with
    | none=>simp[Ai]
    | some b=>simp[Ai,AF0]
   ·have hle:oo+xs.length * τ.size≤cs.size:=by
     have:xs.length * τ.size≤cap * τ.size:=Ac _ hlc
     omega
    refine⟨win cs.toList oo (xs.length * τ.size),lN (by simpa using hle),fun w' hw'=>?_,fun i y hi=>?_⟩
    ·have hc:=zT (o:=oo) (n:=xs.length * τ.size) hob.blk hle
     rw[← AQ1 hw'] at hc
     simp only[Ai]
     exact iL hc
    ·have hj:i < xs.length:=by unfold nth at hi;exact (Ae.1 hi).1
     have hlt':(i+1) * τ.size≤xs.length * τ.size:=Ac _ hj
     rw[Ah,Av] at hlt'
     rw[nG (by omega)]
     have:=hel i y hi
     rw[xD] at this;exact this
  obtain⟨co,hcl,hold,hel⟩:=hold
  obtain⟨nc,w',hnc,hrun,hheap⟩:=Ac6 (ty:=ty) hok ha hroom hlen hold
  refine⟨w',nc,_,hrun,hheap,fun key' β' hk'=>?_⟩
  have hS:∀ b',S b'→S b'∧w'.heap[b']?=w.heap[b']?:=fun b' hb'=>⟨hb',qJ hheap (hlt b' hb')⟩
  simp only[zX,Fl.base]
  refine⟨by simp[lV,Fl.pins],_,nc,by rw[Ax],by rw[Ax];exact hnc,.inr ⟨w.heap.size,0,_,rfl,hk',AN4.new hheap (.inl rfl),?_,fun i y hi=>?_⟩⟩
  ·simp only[Bz,AW,aJ,hcl,hy.len]
   have:nc * τ.size=xs.length * τ.size+ys.length * τ.size+(nc - (xs.length+ys.length)) * τ.size:=by
    rw[← Ah,← Ah];congr 1;omega
   omega
  ·rw[xD,A2]
   simp only[BM]
   have wl:∀ (A B:List Value) (p n:Nat),p+n≤A.length→win (A++B) p n=win A p n:=fun A B p n h=>by
    unfold win
    rw[Bn (by omega),Bo (by simp;omega)]
   have wr:∀ (A B:List Value) (p n:Nat),win (A++B) (A.length+p) n=win B p n:=fun A B p n=>by
    unfold win;rw[Ca,B9 (by omega)];simp
   rcases AG7 hi with ⟨hlt',hi⟩| ⟨hge,hi⟩
   ·have hlt2:(i+1) * τ.size≤xs.length * τ.size:=Ac _ hlt'
    rw[Ah,Av] at hlt2
    rw[wl _ _ _ _ (by omega)]
    exact yA hS (hel i y hi)
   ·have hj:i - xs.length < ys.length:=by unfold nth at hi;exact (Ae.1 hi).1
    have hlt2:(i - xs.length+1) * τ.size≤ys.length * τ.size:=Ac _ hj
    rw[Ah,Av] at hlt2
    have e2:i * τ.size=co.length+(i - xs.length) * τ.size:=by
     rw[hcl,← Ah];congr 1;omega
    rw[e2,wr,wl _ _ _ _ (by rw[hy.len];omega)]
    exact yA hS (hy.get _ y hi)
end
end Go.Rf

end
section
namespace Go.Rf
set_option linter.unusedSectionVars false
variable [T:Laid]
section
variable {P:Program} {H:Nat→Option (List Value)} {N:Nat} {g g' σ:yL} {V V':Nat→Option Value} {w w':World} {S S':Nat→Prop} {β β':Key→Option Nat} {a:Act} {o:Oper}
variable {E:Env} {gv:yL} {us:List Up}
theorem A5Y {key:Key} {τ:Ty} {ys:List τ.D} {e:Fl} {c:List Value} (hw:e.whole=true) (h:zX S β H w key (.sl τ) (.own e) ys c):
  ∃ ad cap cy,c=[.slice ad ys.length cap]∧ys.length≤cap∧cy.length=ys.length * τ.size∧(∀ v ∈ cy,v.oneCell'=true) ∧
   (∀ w',w'.heap=w.heap→(Ai τ.size ys.length (.slice ad ys.length cap)).run P w'=.ok cy.toArray w') ∧
   (∀ i y,nth ys i=some y→zX S β H w (key++[i]) τ e y (win cy (i * τ.size) τ.size)) ∧
   ((cap=0∧ys=[])∨∃ b o cs,ad=some ⟨b,o,none⟩∧β key=some b∧AN4 (B0l τ) w b cs∧o+cap * τ.size≤cs.size∧cy=win cs.toList o (ys.length * τ.size)):=by
 simp only[zX,Fl.base] at h
 obtain⟨_,ad,cap,rfl,hl,h⟩:=h
 rcases h with h|⟨b,oo,cs,rfl,hk,hB,hz,h⟩
 ·have hy:ys=[]:=Am.1 (by omega)
  subst hy
  refine⟨ad,cap,[],rfl,hl,by simp,by simp,fun w' _=>?_,fun i y hi=>by simp[nth] at hi,.inl ⟨h,rfl⟩⟩
  cases ad with
  | none=>simp[Ai]
  | some b=>simp[Ai,AF0]
 ·have hle:oo+ys.length * τ.size≤cs.size:=by
   have:ys.length * τ.size≤cap * τ.size:=Ac _ hl
   omega
  have hel:∀ i y,nth ys i=some y→zX S β H w (key++[i]) τ e y (win (win cs.toList oo (ys.length * τ.size)) (i * τ.size) τ.size):=fun i y hi=>by
   have hj:i < Ag ys:=by unfold nth at hi;exact (Ae.1 hi).1
   have hlt:(i+1) * τ.size≤Ag ys * τ.size:=Ac _ hj
   rw[Ah,Av] at hlt
   rw[nG (by omega)]
   exact h i y hi
  have hlen:(win cs.toList oo (ys.length * τ.size)).length=ys.length * τ.size:=lN (by simpa using hle)
  refine⟨_,cap,win cs.toList oo (ys.length * τ.size),rfl,hl,hlen,(Elems.of (S:=A6s S β) (w:=w) hlen fun j v hv=>aQ hw (hel j v hv)).one,fun w' hw'=>?_,hel,.inr ⟨b,oo,cs,rfl,hk,hB,hz,rfl⟩⟩
  have hc:=zT (o:=oo) (n:=ys.length * τ.size) hB.blk hle
  rw[← AQ1 hw'] at hc
  simp only[Ai]
  exact iL hc
def AE9 (β:Key→Option Nat) (n m d b:Nat):Key→Option Nat
 | []=>β []
 | [i]=>if i=d then some b else if i=n∨i=n+1 then none else β [i]
 | i :: j :: s=>if i=d then (if j < m then β (n :: j :: s) else β ((n+1) :: (j - m) :: s)) else if i=n∨i=n+1 then none else β (i :: j :: s)
theorem AA5 {n m d b b':Nat} {k:Key} (h:AE9 β n m d b k=some b'):
  (k=[d]∧b'=b)∨(∃ j s,j < m∧k=d :: j :: s∧β (n :: j :: s)=some b')∨(∃ j s,k=d :: (m+j) :: s∧β ((n+1) :: j :: s)=some b') ∨
   ((∀ s,k≠d :: s)∧(∀ s,k≠n :: s)∧(∀ s,k≠(n+1) :: s)∧β k=some b'):=by
 match k,h with
 | [],hh=>exact .inr (.inr (.inr ⟨by simp,by simp,by simp,hh⟩))
 | [i],hh=>
  simp only[AE9] at hh
  split at hh
  ·rename_i e;subst e;exact .inl ⟨rfl,(Ap hh).symm⟩
  ·rename_i h1
   split at hh
   ·cases hh
   ·rename_i h2
    refine .inr (.inr (.inr ⟨?_,?_,?_,hh⟩))<;>(intro s e;simp only[Ak] at e;omega)
 | i :: j :: s,hh=>
  simp only[AE9] at hh
  split at hh
  ·rename_i e;subst e
   split at hh
   ·rename_i hj;exact .inr (.inl ⟨j,s,hj,rfl,hh⟩)
   ·rename_i hj;exact .inr (.inr (.inl ⟨j - m,s,by rw[show m+(j - m)=j by omega],hh⟩))
  ·rename_i h1
   split at hh
   ·cases hh
   ·rename_i h2
    refine .inr (.inr (.inr ⟨?_,?_,?_,hh⟩))<;>(intro s e;simp only[Ak] at e;omega)
theorem Sane.join {n m d b:Nat} (h:Sane w S β) (hsz:w.heap.size≤w'.heap.size) (hb:∀ k,β k=some b→k=[n]) (hS:¬ S b) (hlt:b < w'.heap.size) (hSS:∀ b,S b→w'.heap[b]?=w.heap[b]?):Sane w' S (AE9 β n m d b) where
 inj k k' b' h1 h2:=by
  rcases AA5 h1 with ⟨rfl,rfl⟩| ⟨j,s,hj,rfl,q1⟩| ⟨j,s,rfl,q1⟩| ⟨a1,a2,a3,q1⟩ <;>
   rcases AA5 h2 with ⟨rfl,e2⟩| ⟨j',s',hj',rfl,q2⟩| ⟨j',s',rfl,q2⟩| ⟨c1,c2,c3,q2⟩
  ·rfl
  ·have:=hb _ q2;simp at this
  ·have:=hb _ q2;simp at this
  ·exact absurd (hb _ q2) (c2 _)
  ·subst e2;have:=hb _ q1;simp at this
  ·have:=h.inj _ _ _ q1 q2;simp only[Ak] at this ⊢;exact⟨trivial,this.2⟩
  ·have:=h.inj _ _ _ q1 q2;simp only[Ak] at this;omega
  ·exact absurd (h.inj _ _ _ q2 q1) (c2 _)
  ·subst e2;have:=hb _ q1;simp at this
  ·have:=h.inj _ _ _ q1 q2;simp only[Ak] at this;omega
  ·have:=h.inj _ _ _ q1 q2;simp only[Ak] at this ⊢;exact⟨trivial,by omega,this.2.2⟩
  ·exact absurd (h.inj _ _ _ q2 q1) (c3 _)
  ·subst e2;exact absurd (hb _ q1) (a2 _)
  ·exact absurd (h.inj _ _ _ q1 q2) (a2 _)
  ·exact absurd (h.inj _ _ _ q1 q2) (a3 _)
  ·exact h.inj _ _ _ q1 q2
 sep k b' h1:=by
  rcases AA5 h1 with ⟨rfl,rfl⟩| ⟨j,s,hj,rfl,q1⟩| ⟨j,s,rfl,q1⟩| ⟨a1,a2,a3,q1⟩
  ·exact hS
  ·exact h.sep _ _ q1
  ·exact h.sep _ _ q1
  ·exact h.sep _ _ q1
 live k b' h1:=by
  rcases AA5 h1 with ⟨rfl,rfl⟩| ⟨j,s,hj,rfl,q1⟩| ⟨j,s,rfl,q1⟩| ⟨a1,a2,a3,q1⟩
  ·exact hlt
  ·exact Bd (h.live _ _ q1) hsz
  ·exact Bd (h.live _ _ q1) hsz
  ·exact Bd (h.live _ _ q1) hsz
 liveS b' hb':=Bd (h.liveS b' hb') hsz
 tab:=h.tabs fun b hb=>⟨hb,hSS b hb⟩
theorem Step.join {n m d b:Nat} (hb:(∃ k,β k=some b)∨w.heap.size≤b) (hsz:w.heap.size≤w'.heap.size) (hold:∀ b',b' < w.heap.size→(∀ k,β k≠some b')→w'.heap[b']?=w.heap[b']?) (hout:SameOut w w'):Step w S β w' S (AE9 β n m d b) where
 size:=hsz
 old:=hold
 new k b' h1:=by
  rcases AA5 h1 with ⟨rfl,rfl⟩| ⟨j,s,hj,rfl,q1⟩| ⟨j,s,rfl,q1⟩| ⟨a1,a2,a3,q1⟩
  ·exact hb
  ·exact .inl ⟨_,q1⟩
  ·exact .inl ⟨_,q1⟩
  ·exact .inl ⟨_,q1⟩
 keepS _ h:=h
 newS _ h:=.inl h
 out:=hout
theorem A9G (A B:List Value) (p n:Nat) (h:p+n≤A.length):win (A++B) p n=win A p n:=by
 unfold win
 rw[Bn (by omega),Bo (by simp;omega)]
theorem BZ5 (A B:List Value) (p n:Nat):win (A++B) (A.length+p) n=win B p n:=by
 unfold win;rw[Ca,B9 (by omega)];simp
theorem BM7 {k:Key} {τ:Ty} {ad:Option Addr} {e:Fl}:zX S β H w k (.sl τ) (.own e) ([]:List τ.D) [.slice ad 0 0]:=by
 simp only[zX,Fl.base]
 exact⟨by simp[lV,Fl.pins],ad,0,rfl,by simp,.inl rfl⟩
theorem BS2 {t t' ty e0:TypeId} {τ:Ty} {z:Value} {vy:Value} {xs ys:List τ.D} {cx cy:List Value} {e:Fl} {n d:Nat} (hw:e.whole=true) (hok:SlOK E t e0 τ z) (hs:Sane w S β)
  (hx:zX S β H w [n] (.sl τ) (.own e) xs cx) (hyl:cy.length=ys.length * τ.size) (hy1:∀ v ∈ cy,v.oneCell'=true) (hye:∀ i y,nth ys i=some y→zX S β H w ([n+1]++[i]) τ e y (win cy (i * τ.size) τ.size))
  (ha:A8A E.P w t' τ.size z.cells vy ys.length cy) (hlen:xs.length+ys.length≤1099511627776):
  ∃ v w' β',(At #[t,t'] ty #[yK (.sl τ) cx,vy]).run E.P w=.ok v w'∧Sane w' S β'∧Step w S β w' S β'∧(∀ b,S b→w'.heap[b]?=w.heap[b]?) ∧
   (∀ j s b,j≠d→j≠n→j≠n+1→β (j :: s)=some b→β' (j :: s)=some b∧w'.heap[b]?=w.heap[b]?)∧∃ cr,v=yK (.sl τ) cr∧zX S β' H w' [d] (.sl τ) (.own e) (xs++ys:List τ.D) cr:=by
 obtain⟨ad,cap,co,rfl,hlc,hcl,hc1,hcf,hce,hblk⟩:=A5Y (P:=E.P) hw hx
 have hv:yK (.sl τ) [.slice ad xs.length cap]=.slice ad xs.length cap:=rfl
 rw[hv]
 by_cases hroom:xs.length+ys.length≤cap
 ·rcases hblk with ⟨hb,hxx⟩| ⟨b,oo,cs,rfl,hk,hob,hz,hco⟩
  ·have hyy:ys=[]:=Am.1 (by omega)
   subst hxx;subst hyy
   have hcy:cy=[]:=Am.1 (by simpa using hyl)
   subst hcy
   have hrun:=bP (base:=ad) (ty:=ty) (w':=w) hok ha hroom (fun a _=>by simp[storeCells]) (fun _=>rfl)
   have hsr:=hs.rekey [n] [d]
   refine⟨_,w,_,hrun,(hs.rekey [n] [d]).rekey [n+1] [n],((Step.rekey [n] [d]).trans (Step.rekey [n+1] [n])),fun _ _=>rfl,fun j s b h1 h2 h3 hb=>⟨?_,rfl⟩,[.slice ad 0 cap],rfl,?_⟩
   ·rw[vX (yQ h2) (yQ h3),vX (yQ h1) (yQ h2)];exact hb
   ·rw[hb];exact BM7
  ·obtain⟨el,fz,hbl,hf⟩:=hob
   have hle:oo+xs.length * τ.size+cy.length≤cs.size:=by
    rw[hyl]
    have:xs.length * τ.size+ys.length * τ.size≤cap * τ.size:=by rw[← Ah];exact Ac _ hroom
    omega
   obtain⟨w',cs',k1,k2,k3,k4,k5,k6⟩:=jF (P:=E.P) (vs:=cy) (i:=0) (o:=oo+xs.length * τ.size) hbl (fun j hj=>⟨by omega,hf.1 _ (by omega)⟩) hy1
   rw[Ay] at k3
   have hsz:cs'.size=cs.size:=by
    have:=AX Ag k3
    rw[oG (by simpa using hle)] at this
    simpa using this
   have hSne:∀ b',S b'→b'≠b:=fun b' hb' e=>hs.sep [n] b hk (e▸hb')
   have hown:∀ k b',β k=some b'→k≠[n]→w'.heap[b']?=w.heap[b']?:=fun k b' hb' hne=>k4 b' (fun e=>hne (hs.inj _ _ _ hb' (e▸hk)))
   have hrun:=bP (base:=some ⟨b,oo,none⟩) (ty:=ty) (w':=w') hok ha hroom (fun a ha'=>by
    simp only[Aa] at ha';subst ha'
    rw[gY];exact k1) (fun h=>by cases h)
   refine⟨_,w',AE9 β n xs.length d b,hrun,hs.join (BV k5.symm) (fun k hb=>hs.inj _ _ _ hb hk) (hs.sep _ _ hk) (by rw[k5];exact hs.live _ _ hk) (fun b' hb'=>k4 b' (hSne b' hb')),Step.join (.inl ⟨_,hk⟩) (BV k5.symm) (fun b' _ hb'=>k4 b' (fun e=>hb' [n] (e▸hk))) k6,
    fun b' hb'=>k4 b' (hSne b' hb'),fun j s b' h1 h2 h3 hb=>⟨?_,hown _ _ hb (by simp[h2])⟩,[.slice (some ⟨b,oo,none⟩) (xs.length+ys.length) cap],rfl,?_⟩
   ·cases s with
    | nil=>simp only[AE9];rw[As h1,As (by omega)];exact hb
    | cons j' s=>simp only[AE9];rw[As h1,As (by omega)];exact hb
   ·simp only[zX,Fl.base]
    refine⟨by simp[lV,Fl.pins],_,cap,by rw[Ax],by rw[Ax];exact hroom,.inr ⟨b,oo,cs',rfl,by simp[AE9],⟨el,fz,k2,by rw[hsz];exact hf⟩,by rw[hsz];exact hz,fun i y hi=>?_⟩⟩
    rw[k3]
    rcases AG7 hi with ⟨hlt',hi⟩| ⟨hge,hi⟩
    ·have hlt2:(i+1) * τ.size≤xs.length * τ.size:=Ac _ hlt'
     rw[Ah,Av] at hlt2
     rw[tN (by simpa using hle) (.inl (by omega)),← nG (o:=oo) (n:=xs.length * τ.size) (by omega),← hco]
     refine zS (fun b' hb'=>⟨hb',k4 b' (hSne b' hb')⟩) (fun s b' hb'=>⟨?_,hown _ _ hb' (by simp)⟩) (hce i y hi)
     show AE9 β n xs.length d b (d :: i :: s)=some b'
     simp only[AE9,Az,AE hlt'];exact hb'
    ·have hj:i - xs.length < ys.length:=by unfold nth at hi;exact (Ae.1 hi).1
     have hlt2:(i - xs.length+1) * τ.size≤ys.length * τ.size:=Ac _ hj
     rw[Ah,Av] at hlt2
     have e2:oo+i * τ.size=oo+xs.length * τ.size+(i - xs.length) * τ.size:=by
      have:i * τ.size=xs.length * τ.size+(i - xs.length) * τ.size:=by rw[← Ah];congr 1;omega
      omega
     have e3:win (dS cs.toList (oo+xs.length * τ.size) cy) (oo+i * τ.size) τ.size=win cy ((i - xs.length) * τ.size) τ.size:=by
      rw[e2,← nG (n:=cy.length) (by rw[hyl];omega),fJ (by simpa using hle)]
     rw[e3]
     refine zS (fun b' hb'=>⟨hb',k4 b' (hSne b' hb')⟩) (fun s b' hb'=>⟨?_,hown _ _ hb' (by simp)⟩) (hye _ y hi)
     show AE9 β n xs.length d b (d :: i :: s)=some b'
     simp only[AE9,Az,As (Ci.2 hge)];exact hb'
 ·obtain⟨nc,w',hnc,hrun,hheap⟩:=Ac6 (ty:=ty) hok ha hroom hlen hcf
  have hl:∀ k b',β k=some b'→w'.heap[b']?=w.heap[b']?:=fun k b' hb'=>qJ hheap (hs.live _ _ hb')
  have hS:∀ b',S b'→S b'∧w'.heap[b']?=w.heap[b']?:=fun b' hb'=>⟨hb',qJ hheap (hs.liveS _ hb')⟩
  have hsz:=A0d hheap
  refine⟨_,w',AE9 β n xs.length d w.heap.size,hrun,hs.join (by omega) (fun k hb=>absurd (hs.live _ _ hb) (Nat.lt_irrefl _)) (fun hb=>absurd (hs.liveS _ hb) (Nat.lt_irrefl _)) (by omega) (fun b' hb'=>(hS b' hb').2),Step.join (.inr (Al _)) (by omega) (fun b' hb' _=>qJ hheap hb') hheap.out,
   fun b' hb'=>(hS b' hb').2,fun j s b' h1 h2 h3 hb=>⟨?_,hl _ _ hb⟩,[.slice (some ⟨w.heap.size,0,none⟩) (xs.length+ys.length) nc],rfl,?_⟩
  ·cases s with
   | nil=>simp only[AE9];rw[As h1,As (by omega)];exact hb
   | cons j' s=>simp only[AE9];rw[As h1,As (by omega)];exact hb
  ·simp only[zX,Fl.base]
   refine⟨by simp[lV,Fl.pins],_,nc,by rw[Ax],by rw[Ax];exact hnc,.inr ⟨w.heap.size,0,_,rfl,by simp[AE9],AN4.new hheap (.inl rfl),?_,fun i y hi=>?_⟩⟩
   ·simp only[Bz,AW,aJ,hcl,hyl]
    have:nc * τ.size=xs.length * τ.size+ys.length * τ.size+(nc - (xs.length+ys.length)) * τ.size:=by
     rw[← Ah,← Ah];congr 1;omega
    omega
   ·rw[A2]
    simp only[BM]
    rcases AG7 hi with ⟨hlt',hi⟩| ⟨hge,hi⟩
    ·have hlt2:(i+1) * τ.size≤xs.length * τ.size:=Ac _ hlt'
     rw[Ah,Av] at hlt2
     rw[A9G _ _ _ _ (by omega)]
     refine zS hS (fun s b' hb'=>⟨?_,hl _ _ hb'⟩) (hce i y hi)
     show AE9 β n xs.length d w.heap.size (d :: i :: s)=some b'
     simp only[AE9,Az,AE hlt'];exact hb'
    ·have hj:i - xs.length < ys.length:=by unfold nth at hi;exact (Ae.1 hi).1
     have hlt2:(i - xs.length+1) * τ.size≤ys.length * τ.size:=Ac _ hj
     rw[Ah,Av] at hlt2
     have e2:i * τ.size=co.length+(i - xs.length) * τ.size:=by
      rw[hcl,← Ah];congr 1;omega
     rw[e2,BZ5,A9G _ _ _ _ (by rw[hyl];omega)]
     refine zS hS (fun s b' hb'=>⟨?_,hl _ _ hb'⟩) (hye _ y hi)
     show AE9 β n xs.length d w.heap.size (d :: i :: s)=some b'
     simp only[AE9,Az,As (Ci.2 hge)];exact hb'
end
end Go.Rf

end
section
namespace Go.Rf
set_option linter.unusedSectionVars false
variable [T:Laid]
section
variable {P:Program} {H:Nat→Option (List Value)} {N:Nat} {g g' σ:yL} {V V':Nat→Option Value} {w w':World} {S S':Nat→Prop} {β β':Key→Option Nat} {a:Act} {o:Oper}
variable {E:Env} {gv:yL} {us:List Up}
theorem Bt4 {d r c s u:Nat} {p:List PS} {v:SV} {val:Value} {e:Dat} (h0:r < N) (h1:c≤(g r).c) (h2:s≤(g r).s) (h3:u≤(g r).u) (h:r≠d→BL2 H (g.up (.put d v)) w S β d r p e (some val)):
  mC H N (g.up (.put d v)) (upd V d val) w S β d (.pend r p c s u e):=by
 refine⟨h0,?_⟩
 by_cases hr:r=d
 ·subst hr
  refine⟨by rw[tH];simp;omega,by rw[tH];simp;omega,by rw[tH];simp;omega,fun ok=>?_⟩
  have:=(Ap3.1 ok).2
  rw[tH] at this;simp at this;omega
 ·refine⟨by rw[nJ hr];exact h1,by rw[nJ hr];exact h2,by rw[nJ hr];exact h3,fun _=>?_⟩
  have:(upd V d val) d=some val:=by simp[upd]
  rw[this];exact h hr
theorem mR {c:Call} {x y:Operand} {t t':TypeId} {val:Value} (ho:o.op=.call c) (hcal:c.callee=.builtin .append) (hargs:c.args=#[x,y]) (hts:c.argTypes=#[t,t'])
  (hr:(At #[t,t'] o.type #[a.eval x,a.eval y]).run P w=.ok val w'):(execOp a.eval o).run P w=.ok (.value val) w':=
 bT ho hcal (s:=At #[t,t'] o.type #[a.eval x,a.eval y]) (by rw[hargs,hts,show Co a.eval #[x,y]=#[a.eval x,a.eval y] by simp];rfl) hr
theorem A3K {d:Nat} {t:Ty} {x:t.D} {f:Fl} {val:Value} {ob:Obj} {c:List Value} (h:Rel H N g V w S β) (hD:yW N g) (hd:d < N) (hw:Pushed w w' ob) (hv:zX S (As0 β [d] w.heap.size) H w' [d] t f x c) (hval:val=yK t c):
  Rel H N (g.up (.put d (.dat ⟨t,x,f⟩))) (upd V d val) w' S (As0 β [d] w.heap.size):=
 h.finish (fun _ _=>rfl) hD (fun _ _=>rfl) hd (h.sane.new hw [d]) (fun b hb=>⟨hb,qJ hw (h.sane.liveS b hb)⟩)
  (fun j s b hj _ hb=>⟨by unfold As0;rw[As (by simp[hj])];exact hb,qJ hw (h.sane.live _ b hb)⟩) ⟨c,hv,by simp[upd,hval]⟩
theorem Al1 {k:Key} {τ:Ty} {ad:Option Addr} {e:Fl} {xs:List τ.D} (h:xs=[]):zX S β H w k (.sl τ) (.own e) xs [.slice ad xs.length 0]:=by
 subst h
 simp only[zX,Fl.base]
 exact⟨by simp[lV,Fl.pins],ad,0,rfl,by simp,.inl rfl⟩
theorem A3n {t t' e0:TypeId} {x y:Operand} {c:Call} {τ:Ty} {z:Value} {xs ys:List τ.D} {e:Fl} {us1:List Up} (hc:Ctx E.P H S β a w o g) (hs:Sub gv g) (ho:o.op=.call c) (hcal:c.callee=.builtin .append) (hargs:c.args=#[x,y]) (hts:c.argTypes=#[t,t'])
  (hok:SlOK E t e0 τ z) (hq:A33 gv τ (E.ty t') x y=some ((xs,ys),e,us1)) (hlen:xs.length+ys.length≤1099511627776)
  (hk:lD o us1 (.dat ⟨.sl τ,(xs++ys:List τ.D),.own e⟩) some=some us):yY E.P H S β a w o (g.ups us):=by
 unfold A33 at hq
 split at hq
 ·rename_i τ' ht
  obtain⟨e',he',_⟩:=Ai3 ht
  split at hq
  ·rename_i i1 τ1 xs1 e1 i2 τ2 ys1 e2 us2 htp
   split at hq
   ·rename_i hcond
    simp only[Ad,Ar] at hcond
    obtain⟨hee,_⟩:=hcond
    subst hee
    obtain⟨xs2,hx2,hq⟩:=Aq.1 hq
    obtain⟨ys2,hy2,hq⟩:=Ab.1 hq
    simp only[Af] at hq
    obtain⟨⟨rfl,rfl⟩,rfl,rfl⟩:=hq
    obtain⟨hex,hx2⟩:=tD hx2
    cases hex
    have hx2:xs=xs1:=hx2
    subst hx2
    obtain⟨hey,hy2⟩:=tD hy2
    cases hey
    have hy2:ys=ys1:=hy2
    subst hy2
    obtain⟨dd,hdst,rfl⟩:=xA hk
    have hd:=wP hc.opIn hdst
    obtain⟨S1,β1,g1,V1,cs,k1,k2,k3,k4,k5,k6⟩:=AL2 (ps:=#[(0,x),(1,y)]) hc hs htp (by
     intro q hq
     rw[ho]
     simp only[AO,List.not_mem_nil,or_false] at hq
     rcases hq with rfl|rfl<;>simp[Ce,Call.operands,hargs])
    obtain⟨k31,k32⟩:=k3
    match cs,k31 with
    | [cx,cy],_=>
     obtain⟨m1,m2,m3,m4⟩:=k32 0 _ cx rfl rfl
     obtain⟨n1,n2,n3,n4⟩:=k32 1 _ cy rfl rfl
     rw[Ay] at m1 m2
     obtain⟨cx',hvx,hVx⟩:=k1.dat m1
     obtain⟨cy',hvy,hVy⟩:=k1.dat n1
     have ex:cx'=cx:=rH (Ap (hVx.symm.trans m2)) (yC hvx) m3
     have ey:cy'=cy:=rH (Ap (hVy.symm.trans n2)) (yC hvy) n3
     subst ex;subst ey
     simp only[AB7,List.zip_cons_cons,List.zip_nil_right,BN,List.map_nil,AY,Ak,Af,Bg] at k6
     obtain⟨⟨_,exv⟩,_,eyv⟩:=k6
     have hwh:e1.whole=true:=m4
     obtain⟨ady,capy,cyy,q1,q2,q3,q4,q5,q6,_⟩:=A5Y (P:=E.P) hwh hvy
     subst q1
     have hadd:A8A E.P w t' τ.size z.cells (yK (.sl τ) [.slice ady ys.length capy]) ys.length cyy:=.inl ⟨_,he',by simp,fun w'=>by simp[yK,Ty.agg,Bl],fun w' hw'=>q5 w' hw'⟩
     obtain⟨v,w',β',r1,r2,r3,r4,r5,cr,r6,r7⟩:=BS2 (ty:=o.type) (d:=dd) hwh hok k1.sane hvx q3 q4 q6 hadd hlen
     intro K Q hK
     refine rZ (mR ho hcal hargs hts (by rw[exv,eyv];exact r1)) (hK _ _ S1 β' uD xL ?_ (k2.trans r3))
     rw[hdst,tG hd,xS]
     refine k4.finish (fun _ _=>rfl) k5 (fun _ _=>rfl) hd r2 (fun b hb=>⟨hb,r4 b hb⟩) (fun j s b hj ha hb=>?_) ⟨cr,r7,by simp[upd,r6]⟩
     have:=k5.lt ha
     exact r5 j s b hj (by omega) (by omega) hb
    | [],h|[_],h=>simp at h
    | _ :: _ :: _ :: _,h=>simp at h
   ·cases hq
  ·cases hq
 ·cases hq
theorem A4d {t t':TypeId} {x y:Operand} {c:Call} (hc:Ctx E.P H S β a w o g) (hs:Sub gv g) (ho:o.op=.call c) (hcal:c.callee=.builtin .append) (hargs:c.args=#[x,y]) (hts:c.argTypes=#[t,t'])
  (hk:Aq0 gv o (E.sl t) (E.ty t') x y some=some us):yY E.P H S β a w o (g.ups us):=by
 unfold Aq0 at hk
 split at hk
 ·rename_i τ ht
  obtain⟨τ2,e,z,heq,hok⟩:=A9O ht
  simp only[Ty.sl.injEq] at heq
  subst heq
  split at hk
  ·rename_i xs ys e0 us1 hq
   simp only[Aj] at hk
   split at hk
   ·rename_i hlen
    exact A3n hc hs ho hcal hargs hts hok hq (Ah7 hlen) hk
   ·cases hk
  simp only[Aj] at hk
  split at hk
  case isFalse=>cases hk
  rename_i hcondA
  split at hk
  case isFalse=>cases hk
  rename_i hcondD
  split at hk
  ·rename_i ys us1 hadds
   have hadds:=Be6 hcondA hcondD hadds
   split at hk
   ·rename_i xs vs q hfirst
    try simp only[Aj] at hk
    split at hk
    ·rename_i hlen
     have hlen:=Ah7 hlen
     obtain⟨S1,β1,cy,vy,hrel,hst,hsub,halive,hel,hvy,hadd⟩:=A5i hc.rel hs hok.cells hok.size hadds
     have hD0:yW a.tmps.size (g.ups us1):=hc.dead.ups fun u hu=>hc.dead.lt (halive u hu)
     have eyv:=zP hvy
     unfold A9L at hfirst
     split at hfirst
     ·
      rename_i hx
      simp only[Aa,Af] at hfirst
      obtain⟨rfl,rfl,rfl⟩:=hfirst
      simp only[BC,Bc] at hk
      obtain⟨dd,hdst,rfl⟩:=xA hk
      have hd:=wP hc.opIn hdst
      have hxv:a.eval x=.slice none 0 0:=by
       rcases AH4 (hsub.sv hx (by simp)) with ⟨s,rfl,h'⟩| rfl
       ·have:=hrel.slots s
        rw[h'] at this;exact this.elim
       ·rfl
      have hcore:=Ag7 (ty:=o.type) (ad:=none) (xs:=([]:List τ.D)) (key:=[dd]) (β:=β1) (H:=H) hok (Al1 rfl) hel hadd (by simpa using hlen) (fun b hb=>hrel.sane.sep _ _ hb) hrel.sane.liveS
      intro K Q hK
      rcases hcore with ⟨w',hrun,hres⟩| ⟨w',nc,ob,hrun,hheap,hres⟩
      ·rcases hres with ⟨rfl,_,_,hyy⟩| ⟨b₀,oo,hnone,_⟩
       ·subst hyy
        refine rZ (mR ho hcal hargs hts (by rw[hxv,eyv];exact hrun)) (hK _ _ S1 β1 uD xL ?_ hst)
        rw[hdst,tG hd,xS]
        exact hrel.finish (fun _ _=>rfl) hD0 (fun _ _=>rfl) hd hrel.sane (fun b hb=>⟨hb,rfl⟩) (fun _ _ _ _ _ hb=>⟨hb,rfl⟩) ⟨[.slice none 0 0],Al1 (ad:=none) (xs:=([]:List τ.D)) rfl,by simp[upd,yK,Ty.agg]⟩
       ·cases hnone
      ·refine rZ (mR ho hcal hargs hts (by rw[hxv,eyv];exact hrun)) (hK _ _ S1 _ uD xL ?_ (hst.trans (Step.newB hheap [dd])))
       rw[hdst,tG hd,xS]
       exact A3K hrel hD0 hd hheap (hres [dd] _ (by simp[As0])) rfl
     ·
      rename_i r p c0 s0 u0 d0 hx
      split at hfirst
      ·rename_i τ' xs0 vs0 htk
       obtain⟨xs1,hcast,hpair⟩:=Ab.1 hfirst
       simp only[Af] at hpair
       obtain⟨rfl,rfl,rfl⟩:=hpair
       obtain⟨het,hex⟩:=tD hcast
       cases het
       have hex:xs1=xs0:=hex
       subst hex
       simp only at hk
       obtain⟨dd,hdst,rfl⟩:=xA hk
       have hd:=wP hc.opIn hdst
       rw[← hx] at htk
       obtain⟨htk',_⟩:=AF5 hsub htk
       have hal2:=aC htk'
       have hD1:yW a.tmps.size ((g.ups us1).ups vs0):=hD0.ups fun u hu=>hD0.lt (hal2 u hu)
       obtain⟨S2,β2,cc,k1,k2,k3,k4⟩:=bX hrel htk' (n:=a.tmps.size) (hD0 _ (Al _)) (Al _)
       obtain⟨cx,hvr,hVn⟩:=k1.dat bM
       have hcc:cx=cc:=by
        simp only[upd,Az] at hVn
        exact (rH (Ap hVn) k4 (yC hvr)).symm
       subst hcc
       have hfin:Rel H a.tmps.size ((g.ups us1).ups vs0) (vals a) w S2 β2:=k1.fin (fun i hi=>(cX (by omega)).symm) hD1 (fun i hi=>by simp only[upd];rw[As (by omega)])
       have hvr0:=hvr
       simp only[zX,Fl.base] at hvr0
       obtain⟨_,ad,cap,rfl,_,_⟩:=hvr0
       have exv:a.eval x=.slice ad (Ag xs1) cap:=zP k3
       have hcore:=Ag7 (ty:=o.type) (xs:=xs1) (key:=[a.tmps.size]) (β:=β2) (H:=H) hok hvr (hel.len |> fun _=>(⟨hel.len,hel.one,fun j v h=>yA (fun b hb=>⟨k2.keepS b hb,rfl⟩) (hel.get j v h)⟩:Elems S2 w τ ys cy)) hadd hlen (fun b hb=>k1.sane.sep _ _ hb) k1.sane.liveS
       intro K Q hK
       rcases hcore with ⟨w',hrun,hres⟩| ⟨w',nc,ob,hrun,hheap,hres⟩
       ·rcases hres with ⟨rfl,hcap,hxx,hyy⟩| ⟨b₀,oo,had,hb0,hchg,hsz,hnew⟩
        ·refine rZ (mR ho hcal hargs hts (by rw[exv,eyv];exact hrun)) (hK _ _ S2 β2 uD xL ?_ (hst.trans k2))
         rw[hdst,tG hd,xS,xS]
         refine hfin.finish (fun _ _=>rfl) hD1 (fun _ _=>rfl) hd hfin.sane (fun b hb=>⟨hb,rfl⟩) (fun _ _ _ _ _ hb=>⟨hb,rfl⟩) ⟨[.slice ad (Ag xs1+ys.length) cap],?_,by simp[upd,yK,Ty.agg]⟩
         have hn:xs1++ys=[]:=by rw[hxx,hyy];rfl
         have:=Al1 (S:=S2) (β:=β2) (H:=H) (w:=w') (k:=[dd]) (ad:=ad) (e:=.sh) hn
         rw[Ax] at this
         rw[hcap];exact this
        ·refine rZ (mR ho hcal hargs hts (by rw[exv,eyv];exact hrun)) (hK _ _ S2 (rekey β2 [a.tmps.size] [dd]) uD xL ?_ (((hst.trans k2).trans (Step.store hb0 hchg hsz)).trans ((Step.rekey [a.tmps.size] [dd]).at hsz |> fun h=>⟨h.size,h.old,h.new,h.keepS,h.newS,h.out⟩)))
         rw[hdst,tG hd,xS,xS]
         have hne:∀ b,S2 b→b≠b₀:=fun b hb e=>k1.sane.sep _ _ hb0 (e▸hb)
         have hsr:=k1.sane.rekey [a.tmps.size] [dd]
         refine hfin.finish (fun _ _=>rfl) hD1 (fun _ _=>rfl) hd ⟨hsr.inj,hsr.sep,fun k b hk=>by rw[hsz];exact hsr.live k b hk,fun b hk=>by rw[hsz];exact hsr.liveS b hk,hsr.tabs fun b hb=>⟨hb,hchg.other b (hne b hb)⟩⟩ (fun b hb=>⟨hb,hchg.other b (hne b hb)⟩)
          (fun j s b hj ha hb=>⟨?_,hchg.other b (fun e=>?_)⟩) ⟨_,lI hnew,by simp[upd,yK,Ty.agg]⟩
         ·have:=hD1.lt ha
          rw[vX (yQ hj) (yQ (by omega))];exact hb
         ·subst e
          have:=k1.sane.inj _ _ _ hb hb0
          have hjN:=hD1.lt ha
          simp only[Ak] at this
          omega
       ·refine rZ (mR ho hcal hargs hts (by rw[exv,eyv];exact hrun)) (hK _ _ S2 _ uD xL ?_ ((hst.trans k2).trans (Step.newB hheap [dd])))
        rw[hdst,tG hd,xS,xS]
        exact A3K hfin hD1 hd hheap (hres [dd] _ (by simp[As0])) rfl
      ·cases hfirst
     ·
      split at hfirst
      ·rename_i q0 hq
       split at hfirst
       ·rename_i τ' xs0 hat
        obtain⟨xs1,hcast,hpair⟩:=Ab.1 hfirst
        simp only[Af] at hpair
        obtain⟨rfl,rfl,rfl⟩:=hpair
        obtain⟨het,hex⟩:=tD hcast
        cases het
        have hex:xs1=xs0:=hex
        subst hex
        simp only at hk
        obtain⟨dd,hdst,rfl⟩:=xA hk
        have hd:=wP hc.opIn hdst
        obtain⟨hq',hat',hr⟩:=AQ9 hsub hq hat
        obtain⟨e0,cr,L,cc,he0,hg0,hb0,hV0,hl0,hvr,hw0,hcc0,hvp,hxv⟩:=AK9 hrel hq' hat' (by simp[Fl.base])
        have hvp0:=hvp
        simp only[zX,Fl.base] at hvp0
        obtain⟨_,ad,cap,rfl,hlc,hvp1⟩:=hvp0
        have exv:a.eval x=.slice ad (Ag xs1) cap:=zP hxv
        have hgv:(gv.ups us1) q0.1=(g.ups us1) q0.1:=hr.symm
        have hq0N:=hD0.root he0
        have hcore:=Ag7 (ty:=o.type) (xs:=xs1) (key:=q0.1 :: wL q0.2) (β:=β1) (H:=H) hok hvp hel hadd hlen (fun b hb=>hrel.sane.sep _ _ hb) hrel.sane.liveS
        have hups:(g.ups (us1++[Up.pub q0.1 ((gv.ups us1) q0.1).sv]++[Up.put dd (.pend q0.1 q0.2 ((gv.ups us1) q0.1).c ((gv.ups us1) q0.1).s (((gv.ups us1) q0.1).u+1) ⟨.sl τ,(xs1++ys:List τ.D),.own .sh⟩)])) =
          ((g.ups us1).up (.pub q0.1 (.dat e0))).up (.put dd (.pend q0.1 q0.2 ((g.ups us1) q0.1).c ((g.ups us1) q0.1).s (((g.ups us1) q0.1).u+1) ⟨.sl τ,(xs1++ys:List τ.D),.own .sh⟩)):=by
         rw[xS,xS,hgv,he0];rfl
        rw[hups]
        have g1q:((g.ups us1).up (.pub q0.1 (.dat e0))) q0.1=⟨.dat e0,((g.ups us1) q0.1).c,((g.ups us1) q0.1).s,((g.ups us1) q0.1).u+1⟩:=jC (u:=.pub q0.1 (.dat e0))
        have hD1:yW a.tmps.size ((g.ups us1).up (.pub q0.1 (.dat e0))):=hD0.up hq0N
        have fin:∀ {w':World} {S2:Nat→Prop} {β2:Key→Option Nat} {val:Value} {cx:List Value},Rel H a.tmps.size ((g.ups us1).up (.pub q0.1 (.dat e0))) (vals a) w' S2 β2→∀ {w2:World} {β3:Key→Option Nat},Sane w2 S2 β3→(∀ b,S2 b→w2.heap[b]?=w'.heap[b]?) →
          (∀ j s b,j≠dd→β2 (j :: s)=some b→β3 (j :: s)=some b∧w2.heap[b]?=w'.heap[b]?)→val=yK (.sl τ) cx →
          (q0.1≠dd→∃ β4,(β4=β3∨∃ b,β3 [dd]=some b∧β4=repl β3 (q0.1 :: wL q0.2) dd b)∧zX S2 β4 H w2 (q0.1 :: wL q0.2) (.sl τ) (.own .sh) (xs1++ys:List τ.D) cx) →
          Rel H a.tmps.size (((g.ups us1).up (.pub q0.1 (.dat e0))).up (.put dd (.pend q0.1 q0.2 ((g.ups us1) q0.1).c ((g.ups us1) q0.1).s (((g.ups us1) q0.1).u+1) ⟨.sl τ,(xs1++ys:List τ.D),.own .sh⟩))) (upd (vals a) dd val) w2 S2 β3:=by
         intro w' S2 β2 val cx hR w2 β3 hs2 hS2 hβ2 hval hex
         refine hR.finish (fun _ _=>rfl) hD1 (fun _ _=>rfl) hd hs2 (fun b hb=>⟨hb,hS2 b hb⟩) (fun j s b hj _ hb=>hβ2 j s b hj hb) ?_
         refine Bt4 hq0N (by rw[g1q];exact Al _) (by rw[g1q];exact Al _) (by rw[g1q];exact Al _) fun hne dr hdr=>?_
         rw[nJ hne,g1q] at hdr
         simp only[SV.dat.injEq] at hdr
         subst hdr
         obtain⟨β4,h1,h2⟩:=hex hne
         exact⟨⟨_,hg0,by simp[Fl.base],hb0⟩,β4,cx,h1,h2,by rw[hval]⟩
        intro K Q hK
        rcases hcore with ⟨w',hrun,hres⟩| ⟨w',nc,ob,hrun,hheap,hres⟩
        ·rcases hres with ⟨rfl,hcap,hxx,hyy⟩| ⟨b₀,oo,had,hkb,hchg,hsz,hnew⟩
         ·refine rZ (mR ho hcal hargs hts (by rw[exv,eyv];exact hrun)) (hK _ _ S1 β1 uD xL ?_ hst)
          rw[hdst,tG hd]
          refine fin (cx:=[.slice ad (Ag xs1+ys.length) cap]) (hrel.touch he0) hrel.sane (fun _ _=>rfl) (fun j s b _ hb=>⟨hb,rfl⟩) rfl (fun _=>⟨β1,.inl rfl,?_⟩)
          have hn:xs1++ys=[]:=by rw[hxx,hyy];rfl
          have:=Al1 (S:=S1) (β:=β1) (H:=H) (w:=w') (k:=q0.1 :: wL q0.2) (ad:=ad) (e:=.sh) hn
          rw[Ax] at this
          rw[hcap];exact this
         ·subst had
          have hbeh:Behind S1 β1 w w' ([q0.1]++wL q0.2) b₀ (oo+Ag xs1 * τ.size) cy:=⟨hchg,fun key hkey=>hrel.sane.inj _ _ _ hkey hkb,fun hS=>hrel.sane.sep _ _ hkb hS⟩
          have hcells:zG w e0.t.size (.reg cr)=some cr:=by simp[zG,hl0]
          have hcells':zG w' e0.t.size (.reg cr)=some cr:=by simp[zG,hl0]
          have hne:∀ b,S1 b→b≠b₀:=fun b hb e=>hrel.sane.sep _ _ hkb (e▸hb)
          have hsane':Sane w' S1 β1:=⟨hrel.sane.inj,hrel.sane.sep,fun k b hk=>by rw[hsz];exact hrel.sane.live k b hk,fun b hk=>by rw[hsz];exact hrel.sane.liveS b hk,hrel.sane.tabs fun b hb=>⟨hb,hchg.other b (hne b hb)⟩⟩
          have hpub:Rel H a.tmps.size ((g.ups us1).up (.pub q0.1 (.dat ⟨e0.t,e0.x,e0.f⟩))) (vals a) w' S1 β1:=by
           refine hrel.pub he0 hsane' (fun b hb=>⟨hb,hchg.other b (hne b hb)⟩) (fun j s b hj _ hb=>⟨hb,hchg.other b (fun e=>?_)⟩) (fun p d L2 cr2 c2 h1 h2 h3 h4 h5 h6 h7=>?_) ⟨cr,?_,hV0⟩
           ·subst e
            have:=hrel.sane.inj _ _ _ hb hkb
            simp only[Ak] at this
            exact hj this.1
           ·have hcr:cr2=cr:=rH (Ap (h4.symm.trans hV0)) (yC h5) hl0
            subst hcr
            obtain⟨Lq,cq,k1,k2,k3,k4⟩:=AZ0 (w':=w') (k:=[q0.1]) h1 h2 h3 hg0 rfl hb0 hcells hcells' hvr hw0 (by simpa[Ty.size] using hcc0) (Al _) hbeh
            rw[h6] at k1
            simp only[Aa,Af,AS] at k1
            subst k1
            rw[h7] at k3
            cases k3
            exact⟨⟨d.f,h1,h2⟩,k2,k4⟩
           ·exact AW1 hg0 rfl hb0 hcells hvr hw0 (by simpa[Ty.size] using hcc0) (Al _) hbeh
          refine rZ (mR ho hcal hargs hts (by rw[exv,eyv];exact hrun)) (hK _ _ S1 β1 uD xL ?_ (hst.trans (Step.store hkb hchg hsz)))
          rw[hdst,tG hd]
          exact fin hpub hsane' (fun _ _=>rfl) (fun j s b _ hb=>⟨hb,rfl⟩) rfl (fun _=>⟨β1,.inl rfl,hnew⟩)
        ·refine rZ (mR ho hcal hargs hts (by rw[exv,eyv];exact hrun)) (hK _ _ S1 _ uD xL ?_ (hst.trans (Step.newB hheap [dd])))
         rw[hdst,tG hd]
         refine fin (hrel.touch he0) (hrel.sane.new hheap [dd]) (fun b hb=>qJ hheap (hrel.sane.liveS b hb)) (fun j s b hj hb=>⟨by unfold As0;rw[As (by simp[hj])];exact hb,qJ hheap (hrel.sane.live _ b hb)⟩) rfl
          (fun _=>⟨repl (As0 β1 [dd] w.heap.size) (q0.1 :: wL q0.2) dd w.heap.size,.inr ⟨w.heap.size,by simp[As0],rfl⟩,hres _ _ (by simp[repl])⟩)
       ·cases hfirst
      ·cases hfirst
    ·cases hk
   ·cases hk
  ·cases hk
 ·cases hk
end
end Go.Rf

end
section
namespace Go.Rf
set_option linter.unusedSectionVars false
variable [T:Laid]
section
variable {P:Program} {H:Nat→Option (List Value)} {N:Nat} {g g' σ:yL} {V V':Nat→Option Value} {w w':World} {S S':Nat→Prop} {β β':Key→Option Nat} {a:Act} {o:Oper}
variable {E:Env} {gv:yL} {us:List Up}
theorem AZ6 (hs:Sub gv g):∀ {xs:List Operand} {rs:List (Nat × Nat)},AH7 gv xs=some rs→xs=rs.map (fun x=>.tmp x.1)∧∀ x ∈ rs,(g x.1).s=x.2∧(g x.1).sv≠.dead
 | [],rs,h=>by
  simp only[AH7,Aa] at h;subst h;exact⟨rfl,by simp⟩
 | x :: xs,rs,h=>by
  cases x with
  | tmp s=>
   simp only[AH7] at h
   split at h
   ·rename_i t y f hy
    simp only[Ab] at h
    obtain⟨rs',h',rfl⟩:=h
    obtain⟨h1,h2⟩:=AZ6 hs h'
    have hg:=hs.get hy (by simp)
    refine⟨by simp[h1],fun x hx=>?_⟩
    rcases AO.1 hx with rfl|hx
    ·exact⟨by simp only[hg],by simp only[hg,hy];simp⟩
    ·exact h2 x hx
   ·cases h
  | _=>simp[AH7] at h
theorem A1J {h:FuncId} {caps:Array Operand} {rs:List (Nat × Nat)} (hc:Ctx P H S β a w o g) (hs:Sub gv g) (hm:o.op=.makeFunc (.func h) #[] caps) (hr:AH7 gv caps.toList=some rs)
  (hk:lD o [] (.clo h rs) some=some us):yY P H S β a w o (g.ups us):=by
 obtain⟨d,ho,rfl⟩:=xA hk
 obtain⟨h1,h2⟩:=AZ6 hs hr
 refine Ap2 (val:=.func (.func h) #[] (caps.map a.eval)) hc.rel hc.dead ho (wP hc.opIn ho) (by simp[execOp,hm,Instr.makeFunc]) ?_
 refine A8m (fun x hx=>⟨hc.dead.lt (h2 x hx).2,by rw[(h2 x hx).1];exact Al _⟩) fun _ vs hvs=>?_
 congr 2
 apply AG.1
 rw[AY,h1,B8]
 have:(rs.map fun x=>vals a x.1)=rs.map fun x=>some (a.eval (.tmp x.1)):=BL fun x hx=>iU (hc.dead.lt (h2 x hx).2)
 rw[this] at hvs
 have h3:(rs.map fun x=>a.eval (.tmp x.1)).map some=vs.map some:=by rw[← hvs,B8];rfl
 have h4:=(List.map_inj_right (fun _ _=>Ap)).1 h3
 simpa[Function.comp_def] using h4
end
end Go.Rf

end
section
namespace Go.Rf
set_option linter.unusedSectionVars false
variable [T:Laid]
section
variable {P:Program} {H:Nat→Option (List Value)} {N:Nat} {g g' σ:yL} {V V':Nat→Option Value} {w w':World} {S S':Nat→Prop} {β β':Key→Option Nat} {a:Act} {o:Oper}
variable {E:Env} {gv:yL} {us:List Up}
def A4K (S:Nat→Prop) (β:Key→Option Nat) (rs:List Nat):Nat→Prop:=fun b=>S b∨∃ r ∈ rs,∃ s,β (r :: s)=some b
theorem Ae1 (h:Rel H N g V w S β) {L:List Nat}:∀ {rs:List (Nat × Nat)} {cs:FCaps},(∀ x ∈ rs,x.1 ∈ L)→AG9 g rs=some cs →
  (∀ x ∈ rs,(g x.1).s=x.2)∧∃ vs:List Value,rs.map (fun x=>V x.1)=vs.map some∧kX (A4K S β L) w cs vs
 | [],cs,_,hc=>by
  simp only[AG9,Aa] at hc;subst hc
  exact⟨by simp,[],rfl,by simp[kX]⟩
 | (r,s) :: rs,cs,hL,hc=>by
  simp only[AG9] at hc
  have hrd:∀ {t:Ty} {x:(Ty.ptr t).D} {f:Fl} {c:List Value},f.whole=true→zX S β H w [r] (.ptr t) f x c→Rd (A4K S β L) w (.ptr t) x c:=fun hw hv=>
   uX hw (fun _=>.inl) (fun k b hb=>.inr ⟨r,hL (r,s) List.mem_cons_self,k,by simpa using hb⟩) hv
  split at hc
  ·rename_i k n f he
   split at hc
   ·rename_i hok
    simp only[Ad,A3] at hok
    simp only[Ab] at hc
    obtain⟨cs',hc,rfl⟩:=hc
    obtain⟨h1,vs,h2,h3⟩:=Ae1 h (fun x hx=>hL x (by simp[hx])) hc
    obtain⟨c,hv,hV⟩:=h.dat he
    have:=hrd hok.2 hv
    simp only[Rd] at this
    obtain⟨b,cs2,rfl,hb,hB,hz,h4⟩:=this
    refine⟨?_,.pointer (some ⟨b,0,none⟩) :: vs,?_,?_⟩
    ·intro x hx
     rcases AO.1 hx with rfl|hx
     ·exact hok.1
     ·exact h1 x hx
    ·simp only[BN,h2,Ak,Bg];exact hV
    ·simp only[kX]
     refine⟨b,vs,rfl,hb,?_,h3⟩
     have:cs2=#[.int k n]:=by apply AG.1;rw[h4]
     rwa [← this]
   ·cases hc
  ·rename_i v f he
   split at hc
   ·rename_i hok
    simp only[Ad,A3] at hok
    simp only[Ab] at hc
    obtain⟨cs',hc,rfl⟩:=hc
    obtain⟨h1,vs,h2,h3⟩:=Ae1 h (fun x hx=>hL x (by simp[hx])) hc
    obtain⟨c,hv,hV⟩:=h.dat he
    have:=hrd hok.2 hv
    simp only[Rd] at this
    obtain⟨b,cs2,rfl,hb,hB,hz,u,h4,h5⟩:=this
    refine⟨?_,.pointer (some ⟨b,0,none⟩) :: vs,?_,?_⟩
    ·intro x hx
     rcases AO.1 hx with rfl|hx
     ·exact hok.1
     ·exact h1 x hx
    ·simp only[BN,h2,Ak,Bg];exact hV
    ·simp only[kX]
     refine⟨b,u,vs,rfl,hb,?_,h5,h3⟩
     have:cs2=#[u]:=by apply AG.1;rw[h4]
     rwa [← this]
   ·cases hc
  ·cases hc
theorem A8x {x:Operand} {d:Dat} (h:Rel H N g V w S β) (hd:xJ g (sv g x)=some d):
  ∃ c,evl V x=some (yK d.t c)∧Rd (A4K S β (cU g x (sv g x))) w d.t d.x c:=by
 have freeR:∀ {t:Ty} {x:t.D} {c:List Value} {L:List Nat},Rd S w t x c→Rd (A4K S β L) w t x c:=fun hr=>yA (fun b hb=>⟨.inl hb,rfl⟩) hr
 cases hv:sv g x with
 | dead=>rw[hv] at hd;simp[xJ] at hd
 | und=>rw[hv] at hd;simp[xJ] at hd
 | unk=>rw[hv] at hd;simp[xJ] at hd
 | tup d=>rw[hv] at hd;simp[xJ] at hd
 | adr _ _ _ _=>rw[hv] at hd;simp[xJ] at hd
 | nils=>rw[hv] at hd;simp[xJ] at hd
 | dat e=>
  rw[hv] at hd
  simp only[xJ] at hd
  split at hd
  ·rename_i hw
   simp only[Aa] at hd;subst hd
   rcases jK h hv with ⟨s,rfl,hs⟩| ⟨hf,c,hc,hrd⟩
   ·obtain⟨c,hvr,hV⟩:=h.dat hs
    refine⟨c,hV,?_⟩
    simp only[cU]
    split
    ·rename_i hf
     rw[uY hf,xD] at hvr;exact freeR hvr
    ·exact uX hw (fun _=>.inl) (fun k b hb=>.inr ⟨s,by simp,k,by simpa using hb⟩) hvr
   ·exact⟨c,hc,freeR hrd⟩
  ·cases hd
 | clo f rs=>
  rw[hv] at hd
  obtain⟨s,rfl,hs⟩:=rD hv (by simp) (by simp) (by simp)
  simp only[xJ,Ab] at hd
  obtain⟨cs,hc,rfl⟩:=hd
  obtain⟨h1,vs,h2,h3⟩:=Ae1 h (L:=rs.map (·.1)) (fun x hx=>AN.2 ⟨x,hx,rfl⟩) hc
  have hss:=h.slots s
  rw[hs] at hss
  have:=hss.2 h1 vs h2
  refine⟨[.func (.func f) #[] vs.toArray],this,?_⟩
  simp only[Rd,A6c,cU]
  exact⟨_,rfl,vs,rfl,h3⟩
 | als r p c s=>
  rw[hv] at hd
  obtain⟨i,rfl,hi⟩:=rD hv (by simp) (by simp) (by simp)
  simp only[xJ] at hd
  split at hd
  ·rename_i hok
   split at hd
   ·rename_i e he
    split at hd
    ·rename_i hw
     simp only[Aa] at hd;subst hd
     obtain⟨e',he',hg⟩:=dO he
     obtain⟨_,hb,hnd,cr,L,c',k1,k2,k3,k4,k5,k6,k7⟩:=h.als hi hok he' hg
     refine⟨c',k7,?_⟩
     simp only[cU,he]
     split
     ·rename_i hf
      rw[uY hf,xD] at k6;exact freeR k6
     ·exact uX hw (fun _=>.inl) (fun k b hb=>.inr ⟨r,by simp,wL p++k,by simpa using hb⟩) k6
    ·cases hd
   ·cases hd
  ·cases hd
 | pend r p c s u e=>
  rw[hv] at hd
  obtain⟨i,rfl,hi⟩:=rD hv (by simp) (by simp) (by simp)
  simp only[xJ] at hd
  split at hd
  ·rename_i hok
   simp only[Ad] at hok
   split at hd
   ·rename_i e' he
    simp only[Aa] at hd;subst hd
    have hss:=h.slots i
    rw[hi] at hss
    obtain⟨h0,_,_,_,hss⟩:=hss
    obtain⟨_,β2,cc,hβ2,hvr,hV⟩:=hss hok.1 e' he
    refine⟨cc,hV,uX hok.2 (fun _=>.inl) (fun k b hb=>?_) hvr⟩
    simp only[cU]
    rcases hβ2 with rfl|⟨b2,hb2,rfl⟩
    ·exact .inr ⟨r,by simp,wL p++k,by simpa using hb⟩
    ·unfold repl at hb
     split at hb
     ·cases hb;exact .inr ⟨i,by simp,[],hb2⟩
     ·split at hb
      ·cases hb
      ·exact .inr ⟨r,by simp,wL p++k,by simpa using hb⟩
   ·cases hd
  ·cases hd
end
end Go.Rf

end
section
namespace Go.Rf
set_option linter.unusedSectionVars false
variable [T:Laid]
section
variable {S S':Nat→Prop} {β β':Key→Option Nat} {H:Nat→Option (List Value)} {w w':World}
theorem AI8:∀ {t:Ty} {x:t.D} {c:List Value},A3l t=true→Rd S w t x c→Rd S' w' t x c
 | .int _,_,_,_,h|.bool,_,_,_,h|.str,_,_,_,h|.unit,_,_,_,h=>by simpa only[Rd] using h
 | .arr _ t,_,_,hs,h=>by
  simp only[Rd] at h ⊢
  exact⟨h.1,h.2.1,fun i y hy=>AI8 hs (h.2.2 i y hy)⟩
 | .pair a b,_,_,hs,h=>by
  simp only[A3l,Ad] at hs
  simp only[Rd] at h ⊢
  exact⟨AI8 hs.1 h.1,AI8 hs.2 h.2⟩
 | .fn,_,_,hs,_|.sl _,_,_,hs,_|.ptr _,_,_,hs,_=>by simp[A3l] at hs
theorem kI (hS:∀ b,S b→S' b∧w'.heap[b]?=w.heap[b]?):∀ {p:List PS} {t:Ty} {f:Fl} {x:t.D} {d d':Dat} {f2:Fl} {x2:t.D} {k k':Key} {L L':Loc} {c cp:List Value},
  xQ p t f x=some d→d.f.base≠.gone→inB p t x→zG w t.size L=some c→tJ w t L p=some (d.t,L')→zG w d.t.size L'=some cp →
  A0P p t f x d'=some (f2,x2)→zX S β H w k t f x c→zX S' β' H w' (k'++wL p) d'.t d'.f d'.x cp →
  (∀ s b,¬ wL p <+: s→β (k++s)=some b→β' (k'++s)=some b∧w'.heap[b]?=w.heap[b]?)→zX S' β' H w' k' t f2 x2 c
 | [],t,f,x,d,d',f2,x2,k,k',L,L',c,cp,hg,hn,hb,hc,hw,hcp,hm,hv,hd,hβ=>by
  simp only[A0P] at hm
  obtain⟨y,hy,e⟩:=Ab.1 hm
  simp only[Af] at e
  obtain⟨rfl,rfl⟩:=e
  obtain⟨rfl,rfl⟩:=tD hy
  simp only[xQ,Aa] at hg
  subst hg
  simp only[tJ,Aa,Af,AS] at hw
  subst hw
  rw[hc] at hcp
  simp only[Aa] at hcp
  subst hcp
  simpa[wL] using hd
 | .fst :: p,.pair a b,f,x,d,d',f2,x2,k,k',L,L',c,cp,hg,hn,hb,hc,hw,hcp,hm,hv,hd,hβ=>by
  simp only[A0P] at hm
  obtain⟨y,hy,e⟩:=Ab.1 hm
  obtain⟨rfl,rfl⟩:=e
  have hparts:=uG hv
  have hc':=yJ (i:=0) (m:=a.size) hc (by simp[Ty.size])
  have hv1:=hparts.1
  rw[lU] at hv1
  simp only[tJ,wX] at hw
  simp only[xQ] at hg
  refine fZ (tC hv) (oT.2 ⟨?_,?_⟩)
  ·rw[lU]
   exact kI hS (k:=k++[0]) (k':=k'++[0]) hg hn (by simpa[inB] using hb) hc' hw hcp hy hv1 (by simpa[wL] using hd) (fun s b hs hbb=>by
    have:=hβ (0 :: s) b (by simp only[wL,AA,AS];exact hs) (by simpa using hbb)
    simpa using this)
  ·exact zS hS (fun s b hbb=>by
    have:=hβ (1 :: s) b (by simp[wL]) (by simpa using hbb)
    simpa using this) hparts.2
 | .snd :: p,.pair a b,f,x,d,d',f2,x2,k,k',L,L',c,cp,hg,hn,hb,hc,hw,hcp,hm,hv,hd,hβ=>by
  simp only[A0P] at hm
  obtain⟨y,hy,e⟩:=Ab.1 hm
  obtain⟨rfl,rfl⟩:=e
  have hparts:=uG hv
  have hlen:=hJ hc
  simp only[Ty.size] at hlen
  have hc':=yJ (i:=a.size) (m:=b.size) hc (by simp[Ty.size])
  have hv1:=hparts.2
  rw[lQ hlen] at hv1
  simp only[tJ,wX] at hw
  simp only[xQ] at hg
  refine fZ (tC hv) (oT.2 ⟨?_,?_⟩)
  ·exact zS hS (fun s b hbb=>by
    have:=hβ (0 :: s) b (by simp[wL]) (by simpa using hbb)
    simpa using this) hparts.1
  ·rw[lQ hlen]
   exact kI hS (k:=k++[1]) (k':=k'++[1]) hg hn (by simpa[inB] using hb) hc' hw hcp hy hv1 (by simpa[wL] using hd) (fun s b hs hbb=>by
    have:=hβ (1 :: s) b (by simp only[wL,AA,AS];exact hs) (by simpa using hbb)
    simpa using this)
 | .idx i :: p,.arr n t,f,x,d,d',f2,x2,k,k',L,L',c,cp,hg,hn,hb,hc,hw,hcp,hm,hv,hd,hβ=>by
  simp only[A0P] at hm
  simp only[inB] at hb
  obtain⟨hi,hb⟩:=hb
  obtain⟨y,hy,hm⟩:=Aq.1 hm
  split at hm
  ·rename_i hwh
   simp only[Ad,Ar] at hwh
   obtain⟨hwh,hye⟩:=hwh
   simp only[Aa,Af] at hm
   obtain⟨rfl,rfl⟩:=hm
   have hne:f.a.base≠.gone:=fun e=>by have:=pH hwh;rw[e] at this;simp[Fl.whole] at this
   obtain⟨hx,hcl,hel⟩:=eN hne hv
   have hmul:(i+1) * t.size≤n * t.size:=Ac _ hi
   rw[Ah] at hmul
   have hc':=yJ (i:=i * t.size) (m:=t.size) hc (by simp only[Ty.size];omega)
   have hv1:=hel i _ (oZ (z:=t.dflt) (by omega))
   simp only[tJ,wX,hi,Az] at hw
   simp only[xQ] at hg
   refine fZ (tC hv) (AQ6.2 ⟨(BD (as:=(x:List t.D))).trans hx,hcl,fun j z hz=>?_⟩)
   rcases A4H hz with ⟨rfl,_,rfl⟩| ⟨hj,hz⟩
   ·rw[← hye]
    exact kI hS (k:=k++[j]) (k':=k'++[j]) hg hn hb hc' hw hcp hy hv1 (by simpa[wL] using hd) (fun s b hs hbb=>by
     have:=hβ (j :: s) b (by simp only[wL,AA,AS];exact hs) (by simpa using hbb)
     simpa using this)
   ·exact zS hS (fun s b hbb=>by
     have:=hβ (j :: s) b (by simp only[wL,AA];exact fun h=>hj h.1.symm) (by simpa using hbb)
     simpa using this) (hel j z hz)
  ·cases hm
 | .der :: p,.ptr t,f,x,d,d',f2,x2,k,k',L,L',c,cp,hg,hn,hb,hc,hw,hcp,hm,hv,hd,hβ=>by
  have core:∀ {e:Fl} {y:Fl × t.D},f.base=.own e→A0P p t e x d'=some y→∀ {ff:Fl},ff.base=.own y.1→(∀ q ∈ ff.pins,q ∈ f.pins)→zX S' β' H w' k' (.ptr t) ff y.2 c:=by
   intro e y hf hy ff hff hpin
   have hpins:=tC hv
   simp only[zX] at hv ⊢
   refine⟨fun q hq=>hpins q (hpin q hq),?_⟩
   have hv:=hv.2
   rw[hf] at hv
   rw[hff]
   obtain⟨b,cs,rfl,hk,hB,hz,hv⟩:=hv
   have hself:=hβ [] b (by simp[wL]) (by simpa using hk)
   simp only[BC] at hself
   have hge:f.e=e:=by rw[lB,hf];rfl
   simp only[xQ,hge] at hg
   have hc1:zG w 1 L=some [.pointer (some ⟨b,0,none⟩)]:=hc
   simp only[tJ,wX,hc1] at hw
   have hcell:zG w t.size (.mem b 0)=some cs.toList:=by
    rw[zT hB.blk (by omega),← hz,← A',AE4]
   refine⟨b,cs,rfl,hself.1,hB.same hself.2,hz,?_⟩
   exact kI hS (k:=k++[0]) (k':=k'++[0]) hg hn (by simpa[inB] using hb) hcell hw hcp hy hv (by simpa[wL] using hd) (fun s b hs hbb=>by
    have:=hβ (0 :: s) b (by simp only[wL,AA,AS];exact hs) (by simpa using hbb)
    simpa using this)
  cases f with
  | own e=>
   simp only[A0P] at hm
   obtain⟨y,hy,e1⟩:=Ab.1 hm
   obtain⟨rfl,rfl⟩:=e1
   exact core rfl hy rfl (by simp[Fl.pins])
  | pin q g=>
   cases g with
   | own e=>
    simp only[A0P] at hm
    obtain⟨y,hy,e1⟩:=Ab.1 hm
    obtain⟨rfl,rfl⟩:=e1
    exact core rfl hy rfl (by simp[Fl.pins])
   | _=>simp[A0P] at hm
  | _=>simp[A0P] at hm
 | .elm i :: p,.sl t,f,x,d,d',f2,x2,k,k',L,L',c,cp,hg,hn,hb,hc,hw,hcp,hm,hv,hd,hβ=>by
  simp only[inB] at hb
  obtain⟨hi,hb⟩:=hb
  have core:∀ {e:Fl} {y:Fl × t.D},f.base=.own e→A0P p t e (A9 x i t.dflt) d'=some y→y.1=e→∀ {ff:Fl},ff.base=.own e→(∀ q ∈ ff.pins,q ∈ f.pins)→zX S' β' H w' k' (.sl t) ff (List.set x i y.2) c:=by
   intro e y hf hy hye ff hff hpin
   have hpins:=tC hv
   simp only[zX] at hv ⊢
   refine⟨fun q hq=>hpins q (hpin q hq),?_⟩
   have hv:=hv.2
   rw[hf] at hv
   rw[hff]
   obtain⟨ad,cap,rfl,hlc,hv⟩:=hv
   rcases hv with hcap|⟨b,o,cs,rfl,hk,hB,hz,hv⟩
   ·omega
   have hself:=hβ [] b (by simp[wL]) (by simpa using hk)
   simp only[BC] at hself
   have hge:f.e=e:=by rw[lB,hf];rfl
   simp only[xQ,hge] at hg
   have hc1:zG w 1 L=some [.slice (some ⟨b,o,none⟩) (Ag x) cap]:=hc
   simp only[tJ,wX,hc1,hi,Az] at hw
   have hmul:(i+1) * t.size≤cap * t.size:=Ac _ (by omega)
   rw[Ah] at hmul
   have hcell:zG w t.size (.mem b (o+i * t.size))=some (win cs.toList (o+i * t.size) t.size):=zT hB.blk (by omega)
   have hlen:(List.set x i y.2).length=Ag x:=BD (as:=(x:List t.D))
   refine⟨_,cap,by rw[hlen],by rw[hlen];exact hlc,.inr ⟨b,o,cs,rfl,hself.1,hB.same hself.2,hz,fun j z hzj=>?_⟩⟩
   rcases A4H hzj with ⟨rfl,_,rfl⟩| ⟨hj,hzj⟩
   ·rw[← hye]
    have hvi:=hv j _ (oZ (z:=t.dflt) hi)
    rw[← hye] at hvi hg hy
    exact kI hS (k:=k++[j]) (k':=k'++[j]) hg hn hb hcell hw hcp hy hvi (by simpa[wL] using hd) (fun s b hs hbb=>by
     have:=hβ (j :: s) b (by simp only[wL,AA,AS];exact hs) (by simpa using hbb)
     simpa using this)
   ·exact zS hS (fun s b hbb=>by
     have:=hβ (j :: s) b (by simp only[wL,AA];exact fun h=>hj h.1.symm) (by simpa using hbb)
     simpa using this) (hv j z hzj)
  cases f with
  | own e=>
   simp only[A0P] at hm
   obtain⟨y,hy,e1⟩:=Aq.1 hm
   split at e1
   ·rename_i hye
    simp only[Aa,Af] at e1
    obtain⟨rfl,rfl⟩:=e1
    exact core rfl hy hye rfl (by simp[Fl.pins])
   ·cases e1
  | pin q g=>
   cases g with
   | own e=>
    simp only[A0P] at hm
    obtain⟨y,hy,e1⟩:=Aq.1 hm
    split at e1
    ·rename_i hye
     simp only[Aa,Af] at e1
     obtain⟨rfl,rfl⟩:=e1
     exact core rfl hy hye rfl (by simp[Fl.pins])
    ·cases e1
   | _=>simp[A0P] at hm
  | _=>simp[A0P] at hm
end
section
variable {P:Program} {H:Nat→Option (List Value)} {N:Nat} {g g' σ:yL} {V V':Nat→Option Value} {w w':World} {S S':Nat→Prop} {β β':Key→Option Nat} {a:Act} {o:Oper}
variable {E:Env} {gv:yL} {us:List Up}
theorem A6K {c:Call} {x y:Operand} {t t':TypeId} {val:Value} (ho:o.op=.call c) (hcal:c.callee=.builtin .copy) (hargs:c.args=#[x,y]) (hts:c.argTypes=#[t,t'])
  (hr:(Bm #[t,t'] o.type #[a.eval x,a.eval y]).run P w=.ok val w'):(execOp a.eval o).run P w=.ok (.value val) w':=
 bT ho hcal (s:=Bm #[t,t'] o.type #[a.eval x,a.eval y]) (by rw[hargs,hts,show Co a.eval #[x,y]=#[a.eval x,a.eval y] by simp];rfl) hr
theorem A9p {t t' ty e:TypeId} {τ:Ty} {z:Value} {len cap n cap2:Nat} {base ad2:Option Addr} {cy:List Value} (h:SlOK E t e τ z) (hn:n≤len)
  (hl:∀ w,(Ai τ.size n (.slice ad2 n cap2)).run E.P w=(Ai τ.size n (.slice ad2 n cap2)).run E.P w) (hf:(Ai τ.size n (.slice ad2 n cap2)).run E.P w=.ok cy.toArray w)
  (hst:∀ a,base=some a→(storeCells a cy 0).run E.P w=.ok () w') (hno:base=none→w'=w):
  (Bm #[t,t'] ty #[.slice base len cap,.slice ad2 n cap2]).run E.P w=.ok (.int .i64 n) w':=by
 have hmin:Nat.min n len=n:=Nat.min_eq_left hn
 unfold Bm
 simp only[AK,Ao,AB,Sem.run_bind,zE h.und,Result.andThen_ok,Sem.run_pure,Bl,rK h.elem,hmin,hf]
 cases base with
 | none=>simp[hno rfl,goInt]
 | some a=>simp[hst a rfl,goInt]
theorem BP3 {τ:Ty} {xs ys:List τ.D} (h:ys.length≤xs.length):(A79 τ ys xs).length=xs.length:=by
 unfold A79;rw[Ax,Bj];omega
theorem Bm3 {τ:Ty} {xs ys:List τ.D} {i:Nat} {v:τ.D} (h:nth (A79 τ ys xs) i=some v) (hl:ys.length≤xs.length):(i < ys.length∧nth ys i=some v)∨(ys.length≤i∧nth xs i=some v):=by
 unfold nth A79 at *
 by_cases hi:i < ys.length
 ·rw[A7 hi] at h;exact .inl ⟨hi,h⟩
 ·rw[A4 (by omega),BO] at h
  rw[show ys.length+(i - ys.length)=i by omega] at h
  exact .inr ⟨by omega,h⟩
theorem A8R {t t':TypeId} {x y:Operand} {c:Call} (hc:Ctx E.P H S β a w o g) (hs:Sub gv g) (ho:o.op=.call c) (hcal:c.callee=.builtin .copy) (hargs:c.args=#[x,y]) (hts:c.argTypes=#[t,t'])
  (hk:BG2 gv o (E.sl t) x y some=some us):yY E.P H S β a w o (g.ups us):=by
 unfold BG2 at hk
 split at hk
 ·rename_i τ q τ2 ys f2 ht hq hd
  obtain⟨τ3,e0,z0,heq,hok⟩:=A9O ht
  simp only[Ty.sl.injEq] at heq
  subst heq
  split at hk
  ·rename_i e he
   split at hk
   ·rename_i τ' xs hg
    split at hk
    ·rename_i xs1 ys1 hcx hcy
     split at hk
     ·rename_i z hm
      split at hk
      ·rename_i hsc
       simp only[Aj] at hk
       split at hk
       ·rename_i hle
        have hle:Ag ys1≤Ag xs1:=Nat.le_of_ble_eq_true hle
        obtain⟨hex,hx2⟩:=tD hcx
        cases hex
        have hx2:xs1=xs:=hx2
        subst hx2
        obtain⟨hey,hy2⟩:=tD hcy
        cases hey
        have hy2:ys1=ys:=hy2
        subst hy2
        have hat:atP gv q.1 q.2=some ⟨.sl τ,xs1,.own .sh⟩:=by unfold atP;rw[he];exact hg
        obtain⟨hq',hat',hr⟩:=AQ9 hs hq hat
        obtain⟨e1,cr,L,cc,he1,hg1,hb1,hV1,hl1,hvr,hw1,hcc1,hvp,hxv⟩:=AK9 hc.rel hq' hat' (by simp[Fl.base])
        have hee:e1=e:=by
         rw[hr,he] at he1
         simpa using he1.symm
        subst hee
        have hvp0:=hvp
        simp only[zX,Fl.base] at hvp0
        obtain⟨_,ad,cap,rfl,hlc,hvp1⟩:=hvp0
        have exv:a.eval x=.slice ad (Ag xs1) cap:=zP hxv
        obtain⟨cyv,hyv,hry⟩:=pG hc.rel (rL hs hd)
        obtain⟨ad2,cap2,cy,hcyv,hel,hfirst⟩:=A9S hry
        rw[hcyv] at hyv
        have eyv:a.eval y=.slice ad2 (Ag ys1) cap2:=zP hyv
        have hqN:=hc.dead.lt (i:=q.1) (by rw[he1];simp)
        have hcells:zG w e1.t.size (.reg cr)=some cr:=by simp[zG,hl1]
        have fin:∀ {w':World},(Bm #[t,t'] o.type #[a.eval x,a.eval y]).run E.P w=.ok (.int .i64 (Ag ys1)) w'→Sane w' S β→(∀ b,S b→w'.heap[b]?=w.heap[b]?) →
          (∀ key b,β key=some b→key≠q.1 :: wL q.2→w'.heap[b]?=w.heap[b]?)→Step w S β w' S β →
          zX S β H w' (q.1 :: wL q.2) (.sl τ) (.own .sh) (A79 τ ys1 xs1) [.slice ad (Ag xs1) cap]→yY E.P H S β a w o (g.ups us):=by
         intro w' hrun hsane hS hβ hst hnew K Q hK
         have hroot:zX S β H w' [q.1] e1.t z.1 z.2 cr:=
          kI (S:=S) (β:=β) (fun b hb=>⟨hb,hS b hb⟩) (k:=[q.1]) (k':=[q.1]) hg1 (by simp[Fl.base]) hb1 hcells hw1 hcc1 hm hvr hnew (fun s b hp hb=>⟨hb,hβ _ b hb (fun e=>by
           simp only[A5,Bc,Ak,AS] at e
           exact hp (e▸List.prefix_refl _))⟩)
         have hrel:Rel H a.tmps.size (g.up (.mod q.1 (.dat ⟨e1.t,z.2,z.1⟩))) (vals a) w' S β:=
          hc.rel.mod he1 rfl hsane (fun b hb=>⟨hb,hS b hb⟩) (fun j s b hj _ hb=>⟨hb,hβ _ b hb (fun e=>hj (by simp only[Ak] at e;exact e.1))⟩) ⟨cr,hroot,hV1⟩
         have hD1:yW a.tmps.size (g.up (.mod q.1 (.dat ⟨e1.t,z.2,z.1⟩))):=hc.dead.up hqN
         split at hk
         ·rename_i d hdst
          split at hk
          ·cases hk
          ·simp only[Aa] at hk;rw[← hk] at hK
           have hdN:=wP hc.opIn hdst
           refine rZ (A6K ho hcal hargs hts hrun) (hK _ _ S β uD xL ?_ hst)
           rw[hdst,tG hdN]
           exact hrel.finish (fun _ _=>rfl) hD1 (fun _ _=>rfl) hdN hsane (fun b hb=>⟨hb,rfl⟩) (fun _ _ _ _ _ hb=>⟨hb,rfl⟩) B0A
         ·rename_i hdst
          simp only[Aa] at hk;rw[← hk] at hK
          refine rZ (A6K ho hcal hargs hts hrun) (hK _ _ S β uD xL ?_ hst)
          rw[hdst]
          exact hrel
        rcases hvp1 with hcap|⟨b,oo,cs,rfl,hkb,hob,hz,helx⟩
        ·
         have hx0:xs1=[]:=Am.1 (by omega)
         subst hx0
         have hy0:ys1=[]:=Am.1 (by simpa using hle)
         subst hy0
         have hcy0:cy=[]:=Am.1 (by have:=hel.len;simpa using this)
         refine fin (w':=w) (by rw[exv,eyv];exact A9p hok (Al _) (fun _=>rfl) (hfirst w rfl) (fun a _=>by rw[hcy0];simp[storeCells]) (fun _=>rfl)) hc.rel.sane (fun _ _=>rfl) (fun _ _ _ _=>rfl) .refl ?_
         exact hvp
        ·obtain⟨el,fz,hbl,hf⟩:=hob
         have hlz:Ag ys1 * τ.size≤Ag xs1 * τ.size:=Ac _ hle
         have hlz2:Ag xs1 * τ.size≤cap * τ.size:=Ac _ hlc
         have hcl:cy.length=Ag ys1 * τ.size:=hel.len
         have hle2:oo+cy.length≤cs.size:=by omega
         obtain⟨w',cs',k1,k2,k3,k4,k5,k6⟩:=jF (P:=E.P) (vs:=cy) (i:=0) (o:=oo) hbl (fun j hj=>⟨by omega,hf.1 _ (by omega)⟩) hel.one
         rw[Ay] at k3
         have hchg:Chg w w' b oo cy:=⟨k4,⟨cs,el,fz,cs',hbl,k2,k3,hle2⟩,k6⟩
         have hsz:cs'.size=cs.size:=by
          have:=AX Ag k3
          rw[oG (by simpa using hle2)] at this
          simpa using this
         have hne:∀ b',S b'→b'≠b:=fun b' hb' e=>hc.rel.sane.sep _ _ hkb (e▸hb')
         refine fin (w':=w') (by rw[exv,eyv];exact A9p hok hle (fun _=>rfl) (hfirst w rfl) (fun a' ha'=>by simp only[Aa] at ha';subst ha';exact k1) (fun h=>by cases h))
          ⟨hc.rel.sane.inj,hc.rel.sane.sep,fun k b hk=>by rw[k5];exact hc.rel.sane.live k b hk,fun b hk=>by rw[k5];exact hc.rel.sane.liveS b hk,hc.rel.sane.tabs fun b' hb=>⟨hb,k4 b' (hne b' hb)⟩⟩
          (fun b' hb'=>k4 b' (hne b' hb')) (fun key b' hb' hkey=>k4 b' (fun e=>hkey (hc.rel.sane.inj _ _ _ (e▸hb') hkb))) (Step.store hkb hchg k5) ?_
         have hlen:Ag (A79 τ ys1 xs1)=Ag xs1:=by
          exact BP3 hle
         simp only[zX,Fl.base]
         refine⟨by simp[lV,Fl.pins],_,cap,by rw[hlen],by rw[hlen];exact hlc,.inr ⟨b,oo,cs',rfl,hkb,⟨el,fz,k2,by rw[hsz];exact hf⟩,by rw[hsz];exact hz,fun i v hi=>?_⟩⟩
         rw[xD,k3]
         rcases Bm3 hi hle with ⟨hlt,hi⟩| ⟨hge,hi⟩
         ·have hlt2:(i+1) * τ.size≤Ag ys1 * τ.size:=Ac _ hlt
          rw[Ah,Av] at hlt2
          rw[← nG (n:=cy.length) (by omega),fJ (by simpa using hle2)]
          exact AI8 hsc (hel.get i v hi)
         ·have hge2:Ag ys1 * τ.size≤i * τ.size:=Ac _ hge
          rw[tN (by simpa using hle2) (.inr (by omega))]
          have:=helx i v hi
          rw[xD] at this
          exact AI8 hsc this
       ·cases hk
      ·cases hk
     ·cases hk
    ·cases hk
   ·cases hk
  ·cases hk
 ·cases hk
theorem A9g {ty:TypeId→Option Ty}:∀ {i:Nat} {fs:List Field} {off:Nat} {τ:Ty} {y:τ.D} {c:List Value} {e:Dat},jZ ty fs off=some τ→Rd S w τ y c→xQ (yM i) τ .sh y=some e →
  ∃ fl,fs[i]?=some fl∧ty fl.type=some e.t∧off≤fl.offset∧fl.offset - off+e.t.size≤c.length∧Rd S w e.t e.x (win c (fl.offset - off) e.t.size)∧e.f=.sh
 | i,[],off,τ,y,c,e,h,hr,hg=>by
  simp only[jZ,Aa] at h;subst h
  cases i<;>simp[yM,xQ] at hg
 | i,fl :: fs,off,τ,y,c,e,h,hr,hg=>by
  simp only[jZ] at h
  split at h
  ·rename_i a ha
   split at h
   ·rename_i ho
    simp only[A3] at ho
    simp only[Ab] at h
    obtain⟨τ',h,rfl⟩:=h
    have hlen:=qL hr
    simp only[Rd] at hr
    have hl1:=qL hr.1
    have hl2:=qL hr.2
    rw[BY] at hl1
    rw[Bj] at hl2
    cases i with
    | zero=>
     simp only[yM,xQ,Aa] at hg
     subst hg
     refine⟨fl,rfl,ha,by omega,by rw[ho];simp only[BW,A2];omega,?_,rfl⟩
     rw[ho,BW]
     simpa[win] using hr.1
    | succ i=>
     simp only[yM,xQ] at hg
     obtain⟨fl',h1,h2,h3,h4,h5,h6⟩:=A9g h hr.2 hg
     rw[Bj] at h4
     refine⟨fl',by simpa using h1,h2,by omega,by omega,?_,h6⟩
     have:win (c.drop a.size) (fl'.offset - (off+a.size)) e.t.size=win c (fl'.offset - off) e.t.size:=by
      unfold win
      rw[BF]
      congr 2
      omega
     rw[← this];exact h5
   ·cases h
  ·cases h
theorem A6e {t:TypeId} {x:Operand} {i:Nat} (hc:Ctx E.P H S β a w o g) (hs:Sub gv g) (ho:o.op=.field t x i)
  (hk:A3T gv o (E.ty t) x i some=some us):yY E.P H S β a w o (g.ups us):=by
 unfold A3T at hk
 split at hk
 ·rename_i ta tb y hx
  split at hk
  ·rename_i ht
   split at hk
   ·rename_i e hg
    split at hk
    ·obtain⟨fs,hfs,hch⟩:=BB5 (ht:tyN E.P (7+1) t=_)
     have hr:∃ c,evl (vals a) x=some (yK (.pair ta tb) c)∧Rd S w (.pair ta tb) y c:=by
      rcases jK hc.rel (hs.sv hx (by simp)) with ⟨s,rfl,hs'⟩| ⟨_,c,hcc,hr⟩
      ·obtain⟨c,hv,hV⟩:=hc.rel.dat hs'
       exact⟨c,hV,xD.1 hv⟩
      ·exact⟨c,hcc,hr⟩
     obtain⟨c,hcv,hr⟩:=hr
     have ex:a.eval x=.agg c.toArray:=zP hcv
     obtain⟨fl,h1,h2,_,h4,h5,h6⟩:=A9g hch hr hg
     rw[Nat.sub_zero] at h4 h5
     obtain⟨te,xe,fe⟩:=e
     simp only at h6 h5 h4 h2
     subst h6
     refine DV.look (d:=⟨te,xe,.sh⟩) ⟨rfl,_,h5,rfl⟩ hc.rel hc.dead hc.opIn hk ?_
     have hf':fs[i]?=some fl:=by simpa using h1
     have hrun:(Instr.field t (.agg c.toArray) i).run E.P w=.ok (yK te (win c fl.offset te.size)) w:=by
      simp only[Instr.field,Sem.run_bind,zE hfs,Result.andThen_ok,hf',asAgg,Sem.run_pure,A0i (d:=6) h2 h4]
     simp only[execOp,ho,ex,Sem.run_bind,hrun,Result.andThen_ok,Sem.run_pure]
    ·cases hk
   ·cases hk
  ·cases hk
 ·cases hk
end
end Go.Rf

end
section
namespace Go.Rf
set_option linter.unusedSectionVars false
variable [T:Laid]
section
variable {P:Program} {H:Nat→Option (List Value)} {N:Nat} {g g' σ:yL} {V V':Nat→Option Value} {w w':World} {S S':Nat→Prop} {β β':Key→Option Nat} {a:Act} {o:Oper}
variable {E:Env} {gv:yL} {us:List Up}
theorem A3J {α:Type} {xs:Array α} {x:α} (h:xs.toList=[x]):xs=#[x]:=AG.1 h
theorem AX7 {α:Type} {xs:Array α} {x y:α} (h:xs.toList=[x,y]):xs=#[x,y]:=AG.1 h
theorem A2X {b:Builtin} {c:Call} (hc:Ctx E.P H S β a w o g) (hs:Sub gv g) (hm:o.op=.call c) (hcal:c.callee=.builtin b)
  (hk:AX8 E gv o b c some=some us):yY E.P H S β a w o (g.ups us):=by
 unfold AX8 at hk
 split at hk
 ·rename_i x t h1 h2
  exact BL7 (ty:=o.type) hc hs hm hcal (A3J h1) (A3J h2) hk
 ·rename_i x y t t' h1 h2
  exact A4d hc hs hm hcal (AX7 h1) (AX7 h2) hk
 ·exact BM1 hc hs hm hcal rfl hk
 ·rename_i x y t t' h1 h2
  exact A8R hc hs hm hcal (AX7 h1) (AX7 h2) hk
 ·cases hk
theorem BW9 {R:Run E} {mv:Bool} (hc:Ctx E.P H S β a w o g) (hs:Sub gv g)
  (hcall:∀ c f,o.op=.call c→c.callee=.value (.func f)→Az3 E R gv o f c.args.toList some=some us→yY E.P H S β a w o (g.ups us))
  (hcallv:∀ c s v f,o.op=.call c→c.callee=.value (.tmp s)→xJ gv (gv s).sv=some ⟨.fn,v,f⟩→AN9 E R gv o v c.args.toList c.argTypes.toList some=some us→yY E.P H S β a w o (g.ups us))
  (hk:opK E R mv gv o some=some us):yY E.P H S β a w o (g.ups us):=by
 unfold opK at hk
 split at hk
 ·rename_i hm;exact A8Y hc hs hm hk
 ·rename_i hm;exact A4Z hc hs hm hk
 ·rename_i hm;exact A7X hc hs hm hk
 ·rename_i hm;exact A6D hc hm hk
 ·rename_i hm;exact BE1 hc hs hm hk
 ·rename_i hm;exact A5f hc hs hm hk
 ·rename_i hm;exact As5 hc hs hm hk
 ·rename_i hm;exact A7h hc hs hm hk
 ·rename_i hm;exact A5V hc hs hm hk
 ·rename_i hm;exact BH5 hc hs hm hk
 ·rename_i hm
  split at hk
  ·rename_i hy;exact BN0 hc hs hm hy hk
  ·exact BM0 hc hs hm hk
 ·rename_i hm;exact BZ3 hc hs hm hk
 ·rename_i s t x hm
  by_cases hb:E.ty s=some .str∧E.ty t=some (.sl (.int .u8))
  ·exact A2W hc hs hm hb.1 hb.2 hk
  ·exact A8Z hc hs hm hb hk
 ·rename_i h first caps hm
  split at hk
  ·rename_i he
   have:first=#[]:=AG.1 (Bi.1 he)
   subst this
   split at hk
   ·rename_i rs hr;exact A1J hc hs hm hr hk
   ·cases hk
  ·cases hk
 ·rename_i hm;exact Az2 hc hs hm hk
 ·rename_i hm;exact A5a hc hs hm hk
 ·rename_i hm;exact A0C hc hs hm hk
 ·rename_i hm;exact Ay8 hc hs hm hk
 ·rename_i hm;exact A5b hc hs hm hk
 ·rename_i hm;exact A2B hc hs hm hk
 ·rename_i hm;exact A6e hc hs hm hk
 ·rename_i c hm
  split at hk
  ·rename_i b hcal;exact A2X hc hs hm hcal hk
  ·rename_i f hcal;exact hcall c f hm hcal hk
  ·rename_i s hcal
   split at hk
   ·rename_i v f hd;exact hcallv c s v f hm hcal hd hk
   ·cases hk
  ·cases hk
 ·cases hk
end
end Go.Rf

end
section
namespace Go.Rf
set_option linter.unusedSectionVars false
variable [T:Laid]
variable {ρ:Type}
theorem xN {o:Oper} {us:List Up} {v:SV} {κ:List Up→Option ρ}:lD o us v κ=(lD o us v some).bind κ:=by
 unfold lD;split<;>rfl
theorem BT2 {α γ:Type} {b:Bool} {x y:Option α} {f:α→Option γ}:(cond b x y).bind f=cond b (x.bind f) (y.bind f):=by cases b<;>rfl
theorem BJ9 {g:yL} {mv:Bool} {o:Oper} {t:Option Ty} {x:Operand} {κ:List Up→Option ρ}:A7m g mv o t x κ=(A7m g mv o t x some).bind κ:=by
 unfold A7m;(repeat' split)<;>first|rfl|exact xN
theorem Be5 {g:yL} {o:Oper} {x:Operand} {κ:List Up→Option ρ}:B1o g o x κ=(B1o g o x some).bind κ:=by
 unfold B1o;(repeat' split)<;>first|rfl|exact xN
theorem A5L {g:yL} {mv:Bool} {o:Oper} {t:Option Ty} {x:Operand} {κ:List Up→Option ρ}:Ar6 g mv o t x κ=(Ar6 g mv o t x some).bind κ:=by
 unfold Ar6;(repeat' split)<;>first|rfl|exact xN
theorem BH4 {g:yL} {o:Oper} {t:Option Ty} {x:Operand} {κ:List Up→Option ρ}:BM5 g o t x κ=(BM5 g o t x some).bind κ:=by
 unfold BM5;(repeat' split)<;>first|rfl|exact xN
theorem A23 {α:Type} {κ:α→Option ρ} {x:Option α}:∀ {cs:List Bool},(A86 cs x).bind κ=A86 cs (x.bind κ)
 | []=>rfl
 | b :: l=>by simp only[A86];rw[BT2,A23];rfl
theorem A8J {g:yL} {mv:Bool} {o:Oper} {t:Option Ty} {x y:Operand} {κ:List Up→Option ρ}:A2Z g mv o t x y κ=(A2Z g mv o t x y some).bind κ:=by
 unfold A2Z;(repeat' split)<;>first|rfl|(rw[A23];rfl)
theorem A0t {g:yL} {o:Oper} {t:Option Ty} {x:Operand} {i:Nat} {κ:List Up→Option ρ}:aH g o t x i κ=(aH g o t x i some).bind κ:=by
 unfold aH;(repeat' split)<;>first|rfl|exact xN
theorem A07 {g:yL} {o:Oper} {t:Option Ty} {x i:Operand} {κ:List Up→Option ρ}:aA g o t x i κ=(aA g o t x i some).bind κ:=by
 unfold aA;simp only[Aj];(repeat' split)<;>first|rfl|exact xN
theorem A7c {g:yL} {o:Oper} {t:Option Ty} {x i:Operand} {κ:List Up→Option ρ}:A2p g o t x i κ=(A2p g o t x i some).bind κ:=by
 unfold A2p;simp only[Aj];(repeat' split)<;>first|rfl|exact xN
theorem A73 {E:Env} {g:yL} {mv:Bool} {o:Oper} {t:TypeId} {ps:Array (Nat × Operand)} {κ:List Up→Option ρ}:A2j E g mv o t ps κ=(A2j E g mv o t ps some).bind κ:=by
 unfold A2j;(repeat' split)<;>first|rfl|exact xN
theorem A0B {E:Env} {g:yL} {mv:Bool} {o:Oper} {t:TypeId} {n:Nat} {ps:Array (Nat × Operand)} {κ:List Up→Option ρ}:eW E g mv o t n ps κ=(eW E g mv o t n ps some).bind κ:=by
 unfold eW;(repeat' split)<;>first|rfl|exact xN
theorem A1E {E:Env} {g:yL} {mv:Bool} {o:Oper} {t:TypeId} {l c:Operand} {κ:List Up→Option ρ}:bZ E g mv o t l c κ=(bZ E g mv o t l c some).bind κ:=by
 unfold bZ;simp only[Aj];(repeat' split)<;>first|rfl|exact xN
theorem AL4 {x:Option SV} {d:Nat} {κ:Nat→Option (List Up)} {κ':List Up→Option ρ}:(Ak2 x d κ).bind κ'=Ak2 x d fun n=>(κ n).bind κ':=by
 unfold Ak2;simp only[Aj];(repeat' split)<;>first|rfl
theorem A84 {g:yL} {o:Oper} {t:Option Ty} {x:Operand} {lo hi:Option Operand} {κ:List Up→Option ρ}:A2h g o t x lo hi κ=(A2h g o t x lo hi some).bind κ:=by
 unfold A2h
 split
 ·rw[AL4];congr;funext h;rw[AL4];congr;funext l
  simp only[Aj];(repeat' split)<;>first|rfl|exact xN
 ·split
  ·split
   ·rw[AL4];congr;funext h;rw[AL4];congr;funext l
    simp only[Aj];(repeat' split)<;>first|rfl|exact xN
   ·rfl
  ·rfl
 ·rfl
theorem A6A {g:yL} {o:Oper} {t t':Option Ty} {x y:Operand} {κ:List Up→Option ρ}:Aq0 g o t t' x y κ=(Aq0 g o t t' x y some).bind κ:=by
 unfold Aq0;simp only[Aj];(repeat' split)<;>first|rfl|exact xN
theorem BP8 {g:yL} {o:Oper} {t:Option Ty} {x:Operand} {κ:List Up→Option ρ}:B1p g o t x κ=(B1p g o t x some).bind κ:=by
 unfold B1p;(repeat' split)<;>first|rfl|exact xN
theorem BX5 {g:yL} {o:Oper} {xs:List Operand} {κ:List Up→Option ρ}:B1b g o xs κ=(B1b g o xs some).bind κ:=by
 unfold B1b;(repeat' split)<;>first|rfl|exact xN
theorem A4S {g:yL} {o:Oper} {x:Operand} {i:Nat} {κ:List Up→Option ρ}:AW7 g o x i κ=(AW7 g o x i some).bind κ:=by
 unfold AW7;(repeat' split)<;>first|rfl|exact xN
theorem BI0 {g:yL} {o:Oper} {c x y:Operand} {κ:List Up→Option ρ}:BH2 g o c x y κ=(BH2 g o c x y some).bind κ:=by
 unfold BH2
 split
 ·rename_i t _
  cases t
  ·simp only[BT];split<;>first|rfl|exact xN
  ·simp only[Cb];split<;>first|rfl|exact xN
 ·rfl
theorem A8h {E:Env} {mv:Bool} {o:Oper} {t:TypeId} {κ:List Up→Option ρ}:A2g E mv o t κ=(A2g E mv o t some).bind κ:=by
 unfold A2g;(repeat' split)<;>first|rfl|exact xN
theorem Bc0 {E:Env} {g:yL} {mv:Bool} {o:Oper} {t:TypeId} {x:Operand} {κ:List Up→Option ρ}:B1r E g mv o t x κ=(B1r E g mv o t x some).bind κ:=by
 unfold B1r;(repeat' split)<;>first|rfl|exact xN
theorem Ba7 {op:BinOp} {k k':IntKind} {x y:Int} {o:Oper} {κ:List Up→Option ρ}:B1m op k x k' y (fun d=>lD o [] (.dat d) κ)=(B1m op k x k' y (fun d=>lD o [] (.dat d) some)).bind κ:=by
 unfold B1m;simp only[Aj];(repeat' split)<;>first|rfl|exact xN
theorem Bd3 {op:BinOp} {t:Option Ty} {x y:SV} {o:Oper} {κ:List Up→Option ρ}:B1a op t x y (fun d=>lD o [] (.dat d) κ)=(B1a op t x y (fun d=>lD o [] (.dat d) some)).bind κ:=by
 unfold B1a
 split
 ·exact Ba7
 ·unfold B3N;simp only[Aj];(repeat' split)<;>first|rfl|exact xN
 ·(repeat' split)<;>first|rfl|exact xN
 ·rfl
theorem BY0 {E:Env} {op:BinOp} {t:TypeId} {x y:SV} {o:Oper} {κ:List Up→Option ρ}:B1k E op t x y (fun d=>lD o [] (.dat d) κ)=(B1k E op t x y (fun d=>lD o [] (.dat d) some)).bind κ:=by
 unfold B1k
 split
 ·(repeat' split)<;>first|rfl|exact xN
 ·exact Bd3
theorem BS4 {g:yL} {o:Oper} {op:BinOp} {t:Option Ty} {x:Operand} {κ:List Up→Option ρ}:B1d g o op t x κ=(B1d g o op t x some).bind κ:=by
 unfold B1d
 (repeat' split)<;>first|rfl|(generalize AR _ _=q;cases q<;>exact xN)
theorem Bm1 {op:UnOp} {x:SV} {o:Oper} {κ:List Up→Option ρ}:unK op x (fun d=>lD o [] (.dat d) κ)=(unK op x (fun d=>lD o [] (.dat d) some)).bind κ:=by
 unfold unK;(repeat' split)<;>first|rfl|exact xN
theorem BF1 {s t:Option Ty} {x:Option Dat} {o:Oper} {κ:List Up→Option ρ}:A2K s t x (fun d=>lD o [] (.dat d) κ)=(A2K s t x (fun d=>lD o [] (.dat d) some)).bind κ:=by
 unfold A2K;(repeat' split)<;>first|rfl|exact xN
theorem AA0 {E:Env} {R:Run E} {g:yL} {o:Oper} {f:FuncId} {xs:List Operand} {κ:List Up→Option ρ}:Ad2 E R g o f xs κ=(Ad2 E R g o f xs some).bind κ:=by
 unfold Ad2
 split
 ·split
  ·split
   ·rw[B1]
    congr
    funext x
    (repeat' split)<;>rfl
   ·rfl
  ·rfl
 ·rfl
theorem BL3 {E:Env} {R:Run E} {g:yL} {o:Oper} {f:FuncId} {xs:List Operand} {κ:List Up→Option ρ}:Az3 E R g o f xs κ=(Az3 E R g o f xs some).bind κ:=by
 unfold Az3
 rw[AA0 (κ:=fun us=>κ (softs o.dst g us)),AA0 (κ:=fun us=>some (softs o.dst g us)),B1]
 rfl
theorem A8k {E:Env} {R:Run E} {g:yL} {o:Oper} {v:FnVal} {xs:List Operand} {ts:List TypeId} {κ:List Up→Option ρ}:AN9 E R g o v xs ts κ=(AN9 E R g o v xs ts some).bind κ:=by
 unfold AN9
 split
 ·split
  ·rw[B1]
   congr
   funext x
   exact xN
  ·rfl
 ·rfl
theorem A7Q {g:yL} {o:Oper} {t:Option Ty} {x:Operand} {i:Nat} {κ:List Up→Option ρ}:A3T g o t x i κ=(A3T g o t x i some).bind κ:=by
 unfold A3T;(repeat' split)<;>first|rfl|exact xN
theorem BN3 {g:yL} {o:Oper} {t:Option Ty} {x y:Operand} {κ:List Up→Option ρ}:BG2 g o t x y κ=(BG2 g o t x y some).bind κ:=by
 unfold BG2;simp only[Aj];(repeat' split)<;>rfl
theorem A4C {E:Env} {g:yL} {o:Oper} {b:Builtin} {c:Call} {κ:List Up→Option ρ}:AX8 E g o b c κ=(AX8 E g o b c some).bind κ:=by
 unfold AX8
 split
 ·exact BP8
 ·exact A6A
 ·exact BX5
 ·exact BN3
 ·rfl
theorem AI1 {E:Env} {R:Run E} {mv:Bool} {g:yL} {o:Oper} {κ:List Up→Option ρ}:opK E R mv g o κ=(opK E R mv g o some).bind κ:=by
 unfold opK
 split
 ·exact BJ9
 ·exact A5L
 ·exact BI0
 ·exact A8h
 ·exact Bc0
 ·exact A73
 ·exact A0B
 ·exact BH4
 ·exact A8J
 ·exact Be5
 ·split
  ·exact BS4
  ·exact BY0
 ·exact Bm1
 ·exact BF1
 ·(repeat' split)<;>first|rfl|exact xN
 ·exact A1E
 ·exact A84
 ·exact A0t
 ·exact A07
 ·exact A7c
 ·exact A4S
 ·exact A7Q
 ·split
  ·exact A4C
  ·exact BL3
  ·split
   ·exact A8k
   ·rfl
  ·rfl
 ·rfl
end Go.Rf

end
section
namespace Go.Rf
set_option linter.unusedSectionVars false
variable [T:Laid]
section
variable {P:Program} {H:Nat→Option (List Value)} {N:Nat} {g g' σ:yL} {V V':Nat→Option Value} {w w':World} {S S':Nat→Prop} {β β':Key→Option Nat} {a:Act} {o:Oper}
variable {E:Env} {gv:yL} {us:List Up} {ρ:Type}
theorem BV5 {l:List Slot} {i:Nat} (h:l.length≤i):(at? l i).sv=.dead:=by
 unfold at?;simp[A9,AL h,Slot.dead]
theorem Bh0 {l:List Slot}:yW l.length (at? l):=fun _ hi=>BV5 hi
theorem Aq2 {l:List Slot} {u:Up}:(upL l u).length=l.length:=by simp[upL]
theorem lT:∀ {us:List Up} {l:List Slot},(eL l us).length=l.length
 | [],_=>rfl
 | u :: us,l=>by simp only[eL];rw[lT,Aq2]
theorem BW2 {l:List Slot} {u:Up} {i:Nat} (hi:i < l.length):at? (upL l u) i=(yL.up (at? l) u) i:=by
 unfold at? upL
 by_cases e:i=u.slot
 ·subst e
  rw[jC]
  simp[A9,hi,at?]
 ·rw[oQ e]
  simp[A9,AV,B7 e]
theorem BZ6:∀ {us:List Up} {l:List Slot} {g:yL},(∀ i,i < l.length→at? l i=g i)→∀ i,i < l.length→at? (eL l us) i=(g.ups us) i
 | [],_,_,h=>h
 | u :: us,l,g,h=>by
  intro i hi
  simp only[eL]
  refine BZ6 (g:=g.up u) (fun j hj=>?_) i (by rw[Aq2];exact hi)
  rw[Aq2] at hj
  rw[BW2 hj]
  by_cases e:j=u.slot
  ·subst e;rw[jC,jC,h _ hj]
  ·rw[oQ e,oQ e,h j hj]
theorem A9e {l:List Slot} {fp:List Nat}:Sub (nK l fp) (at? l):=fun i=>by
 unfold nK
 by_cases h:(fp.any (AR i ·))=true
 ·right;simp[h]
 ·left;simp[h,Slot.dead]
theorem AW5 {l:List Slot} {i:Nat} {v:SV} (h:(at? l i).sv=v):A2S l i v=l:=by
 unfold A2S
 by_cases hi:i < l.length
 ·apply AC
  intro j
  rw[AV]
  split
  ·rename_i e;subst e
   have:at? l i=l[i]:=by simp[at?,A9,hi]
   rw[A1 hi,← this,← h]
  ·rfl
 ·rw[List.set_eq_of_length_le (by omega)]
def Ag4 (E:Env) (R:Run E):Prop:=∀ (H:Nat→Option (List Value)) (S:Nat→Prop) (β:Key→Option Nat) (a:Act) (w:World) (o:Oper) (g gv:yL) (us:List Up),
 Ctx E.P H S β a w o g→Sub gv g →
  (∀ c f,o.op=.call c→c.callee=.value (.func f)→Az3 E R gv o f c.args.toList some=some us→yY E.P H S β a w o (g.ups us)) ∧
  (∀ c s v f,o.op=.call c→c.callee=.value (.tmp s)→xJ gv (gv s).sv=some ⟨.fn,v,f⟩→AN9 E R gv o v c.args.toList c.argTypes.toList some=some us→yY E.P H S β a w o (g.ups us))
theorem BU1 {R:Run E} (hR:Ag4 E R) {mv:Bool} {l:List Slot} {fp:List Nat} {κ:List Up→Option ρ} {r:ρ} {K:Act→World→Prop} {Q:Exit→Act→World→Prop} (hl:l.length=a.tmps.size) (h:Rel H a.tmps.size (at? l) (vals a) w S β) (hi:opIn a.tmps.size o=true)
  (hk:opK E R mv (nK l fp) o κ=some r)
  (hK:∀ us a' w' S' β',κ us=some r→a'.tmps.size=a.tmps.size→a'.defers=a.defers→Rel H a.tmps.size (at? (eL l us)) (vals a') w' S' β'→Step w S β w' S' β'→K a' w'):o.wp E.P a w K Q:=by
 rw[AI1] at hk
 obtain⟨us,h1,h2⟩:=Aq.1 hk
 have hc:Ctx E.P H S β a w o (at? l):=⟨h,hl▸Bh0,hi⟩
 obtain⟨c1,c2⟩:=hR H S β a w o (at? l) (nK l fp) us hc A9e
 refine BW9 hc A9e c1 c2 h1 K Q fun a' w' S' β' e1 e2 e3 e4=>hK us a' w' S' β' h2 e1 e2 (e3.fin (fun i hi=>?_) (fun i hi=>?_) (fun _ _=>rfl)) e4
 ·exact BZ6 (fun _ _=>rfl) i (by omega)
 ·exact BV5 (by rw[lT];omega)
theorem Rel.unset {d:Nat} {l:List Slot} (hl:l.length=a.tmps.size) (h:Rel H a.tmps.size (at? l) (vals a) w S β) (hd:d < a.tmps.size):Rel H a.tmps.size (at? (upL l (.put d .und))) (vals (a.put (some d) undef)) w S β:=by
 rw[tG hd]
 have h1:Rel H a.tmps.size (yL.up (at? l) (.put d .und)) (upd (vals a) d undef) w S β:=
  h.put h.sane (fun b hb=>⟨hb,rfl⟩) (fun _ _ _ _ _ hb=>⟨hb,rfl⟩) (fun j hj=>by simp[upd,hj]) (by simp[mC,upd])
 refine h1.fin (fun i hi=>BW2 (by omega)) (fun i hi=>BV5 (by rw[Aq2];omega)) (fun _ _=>rfl)
theorem Ae0 {all:List Oper} {j g:Nat} {l:List Slot} {t:Bool} (h:Rel H N (at? l) (vals a) w S β) (hg:(all[j]?).bind BI=some g) (hv:(at? l g).sv=.dat ⟨.bool,t,.sh⟩):yielded all.toArray a.tmps j=some t:=by
 have:=Ap0 (x:=.tmp g) h (show sv (at? l) (.tmp g)=_ from hv) cC
 simp only[evl,vals] at this
 unfold yielded
 simp only[AK]
 rw[hg]
 simp[this]
theorem A02 {all:List Oper} {j g:Nat} {l:List Slot} (h:Rel H N (at? l) (vals a) w S β) (hg:(all[j]?).bind BI=some g) (hv:(at? l g).sv=.und):yielded all.toArray a.tmps j=none:=by
 have:=h.slots g
 rw[hv] at this
 simp only[mC,vals] at this
 unfold yielded
 simp only[AK]
 rw[hg]
 simp[this,undef]
theorem AJ1 {R:Run E} (hR:Ag4 E R) {mv:List Nat} {all:List Oper} {κ:List Slot→Option ρ} {r:ρ} {Q:Exit→Act→World→Prop}:∀ {os:List Oper} {i:Nat} {l:List Slot} {acc:List Rec} {a:Act} {w:World} {S:Nat→Prop} {β:Key→Option Nat},
  l.length=a.tmps.size→Rel H a.tmps.size (at? l) (vals a) w S β→(∀ o ∈ os,opIn a.tmps.size o=true) →
  bR E R mv all false os i l acc κ=some r →
  (∀ l' a' w' S' β',l'.length=a.tmps.size→κ l'=some r→a'.tmps.size=a.tmps.size→a'.defers=a.defers→Rel H a.tmps.size (at? l') (vals a') w' S' β'→Step w S β w' S' β'→Q .normal a' w') →
  wpList E.P all.toArray Q os a w
 | [],i,l,acc,a,w,S,β,hl,h,_,hk,hQ=>hQ l a w S β hl hk rfl rfl h .refl
 | o :: os,i,l,acc,a,w,S,β,hl,h,hin,hk,hQ=>by
  have hgo:∀ {gs:List Nat} {l:List Slot},l.length=a.tmps.size→Rel H a.tmps.size (at? l) (vals a) w S β →
    opK E R (mv.any (AR i ·)) (nK l (A3v o l)) o (fun us=>bR E R mv all false os (i+1) (eL l us) (acc++[An4 (mv.any (AR i ·)) gs l o us]) κ)=some r →
    AP o (yielded all.toArray a.tmps)=true→wpList E.P all.toArray Q (o :: os) a w:=by
   intro gs l hl h hk hw
   unfold wpList
   rw[AE hw]
   left
   refine BU1 hR hl h (hin o (by simp)) hk fun us a' w' S' β' e0 e1 e2 e3 e4=>?_
   refine AJ1 hR (l:=eL l us) (by rw[lT,hl,e1]) (by rw[e1];exact e3) (fun o ho=>by rw[e1];exact hin o (by simp[ho])) e0 ?_
   intro l' a'' w'' S'' β'' f1 f2 f3 f4 f5 f6
   exact hQ l' a'' w'' S'' β'' (f1.trans e1) f2 (f3.trans e1) (f4.trans e2) (by rw[← e1];exact f5) (e4.trans f6)
  have hskip:∀ {gs:List Nat} {l:List Slot},l.length=a.tmps.size→Rel H a.tmps.size (at? l) (vals a) w S β →
    (match o.dst with
     | some d=>bR E R mv all false os (i+1) (upL l (.put d .und)) (acc++[⟨gs,[d],[],[d]⟩]) κ
     | none=>bR E R mv all false os (i+1) l (acc++[⟨gs,[],[],[]⟩]) κ)=some r →
    AP o (yielded all.toArray a.tmps)=false→wpList E.P all.toArray Q (o :: os) a w:=by
   intro gs l hl h hk hw
   unfold wpList
   rw[As (by rw[hw];simp)]
   split at hk
   ·rename_i d hd
    have hdN:=wP (hin o (by simp)) hd
    rw[hd]
    have hs:(a.put (some d) undef).tmps.size=a.tmps.size:=uD
    refine AJ1 hR (l:=upL l (.put d .und)) (by rw[Aq2,hl,hs]) (by rw[hs];exact h.unset hl hdN) (fun o ho=>by rw[hs];exact hin o (by simp[ho])) hk ?_
    intro l' a'' w'' S'' β'' f1 f2 f3 f4 f5 f6
    exact hQ l' a'' w'' S'' β'' (f1.trans hs) f2 (f3.trans hs) (f4.trans xL) (by rw[← hs];exact f5) f6
   ·rename_i hd
    rw[hd]
    exact AJ1 hR hl h (fun o ho=>hin o (by simp[ho])) hk hQ
  unfold bR at hk
  simp only at hk
  split at hk
  ·rename_i hg
   exact hgo hl h hk (by simp[AP,hg])
  ·rename_i j want hg
   split at hk
   ·cases hk
   ·rename_i g hgd
    split at hk
    ·rename_i t hv
     have hy:=Ae0 h hgd hv
     cases t with
     | true=>
      simp only[Cb] at hk
      rw[AW5 hv] at hk
      split at hk
      ·rename_i hw;exact hgo hl h hk (by simp[AP,hg,hy,hw])
      ·rename_i hw;exact hskip hl h hk (by simp[AP,hg,hy];simpa using hw)
     | false=>
      simp only[BT] at hk
      rw[AW5 hv] at hk
      split at hk
      ·rename_i hw;exact hskip hl h hk (by simp[AP,hg,hy,hw])
      ·rename_i hw;exact hgo hl h hk (by simp[AP,hg,hy];simpa using hw)
    ·rename_i hv
     have hy:=A02 h hgd hv
     exact hskip hl h hk (by simp[AP,hg,hy])
    ·cases hk
end
end Go.Rf

end
section
namespace Go.Rf
set_option linter.unusedSectionVars false
variable [T:Laid]
section
variable {P:Program} {H:Nat→Option (List Value)} {N:Nat} {V V':Nat→Option Value} {w w':World} {S S':Nat→Prop} {β β':Key→Option Nat} {a:Act} {o:Oper}
theorem An2 {keep:List Nat} {l:List Slot}:∀ {xs:List Slot} {i:Nat},(Af1 keep l xs i).length=xs.length
 | [],_=>rfl
 | x :: xs,i=>by simp[Af1,An2]
theorem A0s {keep:List Nat} {l:List Slot}:∀ {xs:List Slot} {i j:Nat},j < xs.length→(Af1 keep l xs i)[j]?=some (if keep.any (AR (i+j) ·) then Aq7 l (at? xs j).sv else .dead)
 | [],_,_,h=>by simp at h
 | x :: xs,i,0,_=>by simp[Af1,at?]
 | x :: xs,i,j+1,h=>by
  simp only[Af1,AB]
  rw[A0s (by simpa using h)]
  rw[show i+1+j=i+(j+1) by omega]
  simp[at?,A9]
theorem dJ {σ:List SV} {i:Nat}:at? (eI σ) i=(match σ[i]? with|some v=>⟨v,0,0,0⟩| none=>Slot.dead):=by
 unfold at? eI
 rw[A9,AD]
 cases σ[i]?<;>rfl
theorem Bb2 {keep:List Nat} {l:List Slot} (h:Rel H N (at? l) V w S β) (hl:l.length=N):Rel H N (at? (eI (Af1 keep l l 0))) V w S β:=by
 have back:∀ {r:Nat} {dr:Dat},(at? (eI (Af1 keep l l 0)) r).sv=.dat dr→(at? l r).sv=.dat dr:=by
  intro r dr hr
  rw[dJ] at hr
  by_cases hrl:r < l.length
  ·rw[A0s hrl] at hr
   simp only at hr
   split at hr
   ·revert hr
    cases hv:(at? l r).sv<;>simp only[Aq7]<;>intro hr
    ·cases hr
    ·exact hr
    ·cases hr
    ·split at hr<;>cases hr
    ·split at hr<;>cases hr
    ·cases hr
    ·split at hr<;>cases hr
    ·cases hr
    ·cases hr
    ·cases hr
   ·cases hr
  ·have:(Af1 keep l l 0)[r]?=none:=AL (by rw[An2];omega)
   rw[this] at hr;cases hr
 refine⟨h.sane,fun i=>?_⟩
 rw[dJ]
 by_cases hil:i < l.length
 ·rw[A0s hil]
  simp only[A2]
  split
  ·have hs:=h.slots i
   cases hv:(at? l i).sv with
   | dead=>trivial
   | nils=>rw[hv] at hs;exact hs.elim
   | und=>trivial
   | unk=>rw[hv] at hs;exact hs
   | dat d=>rw[hv] at hs;exact hs
   | tup d=>rw[hv] at hs;exact hs
   | pend _ _ _ _ _ _=>trivial
   | adr r p c s=>
    rw[hv] at hs
    obtain⟨k0,_,_,k3⟩:=hs
    simp only[Aq7]
    split
    ·rename_i hok
     exact⟨k0,B2 _,B2 _,fun _ dr hdr=>k3 hok dr (back hdr)⟩
    ·trivial
   | als r p c s=>
    rw[hv] at hs
    obtain⟨k0,_,_,k3⟩:=hs
    simp only[Aq7]
    split
    ·rename_i hok
     exact⟨k0,B2 _,B2 _,fun _ dr hdr=>k3 hok dr (back hdr)⟩
    ·trivial
   | clo f rs=>
    rw[hv] at hs
    obtain⟨k1,k2⟩:=hs
    simp only[Aq7]
    split
    ·rename_i hok
     refine⟨fun x hx=>?_,fun _ vs hvs=>k2 (fun x hx=>?_) vs ?_⟩
     ·obtain⟨y,hy,rfl⟩:=AN.1 hx
      exact⟨(k1 y hy).1,B2 _⟩
     ·have:=AI.1 hok x hx
      simpa[A3] using this
     ·rw[← hvs,B8];rfl
    ·trivial
  ·trivial
 ·have:(Af1 keep l l 0)[i]?=none:=AL (by rw[An2];omega)
  rw[this];trivial
structure RelS (H:Nat→Option (List Value)) (σ:List SV) (a:Act) (w:World) (S:Nat→Prop) (β:Key→Option Nat):Prop where
 len:σ.length=a.tmps.size
 rel:Rel H a.tmps.size (at? (eI σ)) (vals a) w S β
end
end Go.Rf

end
section
namespace Go.Rf
set_option linter.unusedSectionVars false
variable [T:Laid]
section
variable {P:Program} {H:Nat→Option (List Value)} {w w':World} {S S':Nat→Prop} {β β':Key→Option Nat} {a:Act} {o:Oper}
variable {E:Env} {ρ:Type}
def A5e:Ex→Exit
 | .nm=>.normal
 | .ex id=>.exit id
 | .ret=>.ret
def B3a (H:Nat→Option (List Value)) (κ:Out→Option ρ) (r:ρ) (a:Act) (w:World) (S:Nat→Prop) (β:Key→Option Nat) (Q:Exit→Act→World→Prop):Prop:=
 ∀ (o:Out) (a':Act) (w':World) (S':Nat→Prop) (β':Key→Option Nat),κ o=some r→a'.tmps.size=a.tmps.size→a'.defers=a.defers→RelS H o.σ a' w' S' β'→Step w S β w' S' β'→Q (A5e o.e) a' w'
def A49 (E:Env) (R:Run E):Prop:=∀ {ρ:Type} (H:Nat→Option (List Value)) (mv:List Nat) (ops:List Oper) (id:Nat) (l:List Slot) (a:Act) (w:World) (S:Nat→Prop) (β:Key→Option Nat) (κ:List Slot→Option ρ) (r:ρ) (Q:Exit→Act→World→Prop),
 l.length=a.tmps.size→Rel H a.tmps.size (at? l) (vals a) w S β→(∀ o ∈ ops,opIn a.tmps.size o=true)→bR E R mv ops true ops 0 l [] κ=some r →
 (∀ l' a' w' S' β',l'.length=a.tmps.size→κ l'=some r→a'.tmps.size=a.tmps.size→a'.defers=a.defers→Rel H a.tmps.size (at? l') (vals a') w' S' β'→Step w S β w' S' β'→Q .normal a' w') →
 (Code.region id ops.toArray true).wp E.P Q a w
def A7y (E:Env) (L:fT):Prop:=∀ (H:Nat→Option (List Value)) (f:FuncId) (b:Code) (σ:List SV) (o:Out) (a:Act) (w:World) (S:Nat→Prop) (β:Key→Option Nat) (Q:Exit→Act→World→Prop),
 AA4 a.tmps.size b=true→L f b σ=some o→RelS H σ a w S β →
 (∀ a' w' S' β',a'.tmps.size=a.tmps.size→a'.defers=a.defers→RelS H o.σ a' w' S' β'→Step w S β w' S' β'→Q (A5e o.e) a' w')→(Code.loop b).wp E.P Q a w
theorem RelS.fewer {σ σ':List SV} (hl:σ'.length=σ.length) (hf:∀ j:Nat,σ'[j]?=σ[j]?∨σ'[j]?=some SV.dead) (h:RelS H σ a w S β):RelS H σ' a w S β:=by
 refine⟨by rw[hl];exact h.len,?_⟩
 refine⟨h.rel.sane,fun i=>?_⟩
 have hs:=h.rel.slots i
 have hat:∀ j,at? (eI σ') j=at? (eI σ) j∨(at? (eI σ') j)=⟨.dead,0,0,0⟩:=fun j=>by
  rw[dJ,dJ]
  rcases hf j with e|e
  ·left;rw[e]
  ·right;rw[e]
 have stamps:∀ j,(at? (eI σ) j).c=0∧(at? (eI σ) j).s=0∧(at? (eI σ) j).u=0:=fun j=>by
  rw[dJ];cases σ[j]?<;>exact⟨rfl,rfl,rfl⟩
 have stamps':∀ j,(at? (eI σ') j).c=0∧(at? (eI σ') j).s=0∧(at? (eI σ') j).u=0:=fun j=>by
  rw[dJ];cases σ'[j]?<;>exact⟨rfl,rfl,rfl⟩
 have back:∀ {j dr},(at? (eI σ') j).sv=.dat dr→at? (eI σ') j=at? (eI σ) j:=fun {j dr} hd=>by
  rcases hat j with h|h
  ·exact h
  ·rw[h] at hd;cases hd
 rcases hat i with he|he
 ·rw[he]
  cases hv:(at? (eI σ) i).sv with
  | dead=>trivial
  | nils=>rw[hv] at hs;exact hs.elim
  | und=>rw[hv] at hs;exact hs
  | unk=>rw[hv] at hs;exact hs
  | dat d=>rw[hv] at hs;exact hs
  | tup d=>rw[hv] at hs;exact hs
  | adr r p c s=>
   rw[hv] at hs
   obtain⟨k0,k1,k2,k3⟩:=hs
   rw[(stamps r).1] at k1
   rw[(stamps r).2.1] at k2
   exact⟨k0,by omega,by omega,fun ok dr hdr=>by
    have e:=back hdr
    rw[Sub.okB e] at ok
    rw[e] at hdr
    exact k3 ok dr hdr⟩
  | als r p c s=>
   rw[hv] at hs
   obtain⟨k0,k1,k2,k3⟩:=hs
   rw[(stamps r).1] at k1
   rw[(stamps r).2.1] at k2
   exact⟨k0,by omega,by omega,fun ok dr hdr=>by
    have e:=back hdr
    rw[Sub.okA e] at ok
    rw[e] at hdr
    exact k3 ok dr hdr⟩
  | pend r p c s u d=>
   rw[hv] at hs
   obtain⟨k0,k1,k2,k3,k4⟩:=hs
   rw[(stamps r).1] at k1
   rw[(stamps r).2.1] at k2
   rw[(stamps r).2.2] at k3
   exact⟨k0,by omega,by omega,by omega,fun ok dr hdr=>by
    have e:=back hdr
    rw[Sub.okU e] at ok
    rw[e] at hdr
    exact k4 ok dr hdr⟩
  | clo f rs=>
   rw[hv] at hs
   obtain⟨k1,k2⟩:=hs
   refine⟨fun x hx=>⟨(k1 x hx).1,by have:=(k1 x hx).2;rw[(stamps x.1).2.1] at this;omega⟩,fun hall vs hvs=>k2 (fun x hx=>?_) vs hvs⟩
   have:=hall x hx
   rw[(stamps' x.1).2.1] at this
   rw[(stamps x.1).2.1];exact this
 ·rw[he];trivial
theorem RelS.setdead {σ:List SV} {t:Nat} (h:RelS H σ a w S β):RelS H (σ.set t .dead) a w S β:=h.fewer (by rw[BD]) fun j=>by
 rw[AV]
 by_cases e:t=j
 ·subst e
  by_cases ht:t < σ.length
  ·right;rw[AE rfl,AE ht]
  ·left;rw[AE rfl,As ht,AL (by omega)]
 ·left;rw[As e]
theorem A3A {ks rs:List Nat}:∀ {σ:List SV} {i:Nat},(At7 ks rs σ i).length=σ.length
 | [],_=>rfl
 | _ :: _,_=>by simp only[At7,B4,A3A]
theorem A3P {ks rs:List Nat}:∀ {σ:List SV} {i:Nat} (j:Nat),(At7 ks rs σ i)[j]?=σ[j]?∨(At7 ks rs σ i)[j]?=some SV.dead
 | [],_,_=>.inl rfl
 | v :: vs,i,0=>by
  simp only[At7,Ao]
  split
  ·right;rfl
  ·left;rfl
 | v :: vs,i,j+1=>by
  simp only[At7,AB]
  exact A3P j
theorem RelS.killS {σ:List SV} {ks:List Nat} (h:RelS H σ a w S β):RelS H (killS ks σ) a w S β:=by
 cases ks with
 | nil=>exact h
 | cons k ks=>exact h.fewer A3A fun j=>A3P j
theorem RelS.afterC {keep:List Nat} {σ:List SV} {t:Nat} {x:Bool} (hx:σ.getD t .dead=.dat ⟨.bool,x,.sh⟩) (h:RelS H σ a w S β):RelS H (afterC keep t x σ) a w S β:=by
 unfold Rf.afterC
 split
 ·rw[← hx]
  have e:σ.set t (σ.getD t .dead)=σ:=by
   apply AC
   intro i
   rw[AV]
   by_cases hi:t=i
   ·subst hi
    rw[AE rfl]
    by_cases ht:t < σ.length
    ·rw[AE ht,List.getD_eq_getElem?_getD,A1 ht];rfl
    ·rw[As ht,AL (by omega)]
   ·rw[As hi]
  rw[e];exact h
 ·exact h.setdead
theorem kM {R:Run E} {L:fT} {f:FuncId} (hR:Ag4 E R) (hD:A49 E R) (hL:A7y E L):∀ {c:Code} {σ:List SV} {κ:Out→Option ρ} {r:ρ} {Q:Exit→Act→World→Prop} {a:Act} {w:World} {S:Nat→Prop} {β:Key→Option Nat},
  AA4 a.tmps.size c=true→RelS H σ a w S β→evB E R L f c σ κ=some r→B3a H κ r a w S β Q→c.wp E.P Q a w
 | .skip,σ,κ,r,Q,a,w,S,β,_,h,he,hQ=>wp_skip (hQ ⟨.nm,σ⟩ a w S β he rfl rfl h .refl)
 | .exit id,σ,κ,r,Q,a,w,S,β,_,h,he,hQ=>wp_exit (hQ ⟨.ex id,σ⟩ a w S β he rfl rfl h .refl)
 | .ret,σ,κ,r,Q,a,w,S,β,_,h,he,hQ=>wp_ret (hQ ⟨.ret,σ⟩ a w S β he rfl rfl h .refl)
 | .seq x y,σ,κ,r,Q,a,w,S,β,hd,h,he,hQ=>by
  simp only[AA4,Ad] at hd
  simp only[evB] at he
  refine wp_seq (kM hR hD hL hd.1 h he fun o a' w' S' β' ho e1 e2 h' hst=>?_)
  obtain⟨e,σ'⟩:=o
  cases e with
  | nm=>
   simp only[B1g] at ho
   exact kM hR hD hL (by rw[e1];exact hd.2) h' ho fun o a'' w'' S'' β'' ho' f1 f2 h'' hst'=>hQ o a'' w'' S'' β'' ho' (f1.trans e1) (f2.trans e2) h'' (hst.trans hst')
  | ex id=>exact hQ ⟨.ex id,σ'⟩ a' w' S' β' ho e1 e2 h' hst
  | ret=>exact hQ ⟨.ret,σ'⟩ a' w' S' β' ho e1 e2 h' hst
 | .block id b,σ,κ,r,Q,a,w,S,β,hd,h,he,hQ=>by
  simp only[AA4] at hd
  simp only[evB] at he
  refine wp_block (kM hR hD hL hd h he fun o a' w' S' β' ho e1 e2 h' hst=>?_)
  obtain⟨e,σ'⟩:=o
  cases e with
  | nm=>exact hQ ⟨.nm,σ'⟩ a' w' S' β' ho e1 e2 h' hst
  | ex j=>
   simp only[Aj8] at ho
   split at ho
   ·rename_i hj
    have hj:j=id:=by simpa[A3] using hj
    subst hj
    have:=hQ ⟨.nm,σ'⟩ a' w' S' β' ho e1 e2 h' hst
    simpa[Exit.inBlock,A5e] using this
   ·rename_i hj
    have hj:¬ j=id:=by simpa[A3] using hj
    have:=hQ ⟨.ex j,σ'⟩ a' w' S' β' ho e1 e2 h' hst
    simp only[Exit.inBlock,A5e]
    rw[As hj];exact this
  | ret=>exact hQ ⟨.ret,σ'⟩ a' w' S' β' ho e1 e2 h' hst
 | .cond c x y,σ,κ,r,Q,a,w,S,β,hd,h,he,hQ=>by
  simp only[AA4,Ad] at hd
  simp only[evB] at he
  split at he
  ·rename_i t
   split at he
   ·rename_i b hb
    have hv:(at? (eI σ) t).sv=.dat ⟨.bool,b,.sh⟩:=by
     rw[dJ]
     rw[A9] at hb
     cases hσ:σ[t]? with
     | none=>rw[hσ] at hb;cases hb
     | some v=>rw[hσ] at hb;exact hb
    have hc:=zP (Ap0 (x:=.tmp t) h.rel (show sv (at? (eI σ)) (.tmp t)=_ from hv) cC)
    cases b with
    | true=>
     simp only[Cb] at he
     exact wp_cond_true hc (kM hR hD hL hd.1 (h.afterC hb) he hQ)
    | false=>
     simp only[BT] at he
     exact wp_cond_false hc (kM hR hD hL hd.2 (h.afterC hb) he hQ)
   ·rename_i hb
    split at he
    ·obtain⟨he1,he2⟩:=Aq6 he
     have hv:(at? (eI σ) t).sv=.unk:=by
      rw[dJ]
      rw[A9] at hb
      cases hσ:σ[t]? with
      | none=>rw[hσ] at hb;cases hb
      | some v=>rw[hσ] at hb;exact hb
     have hs:=h.rel.slots t
     rw[hv] at hs
     obtain⟨b,hs⟩:=hs
     have hc:a.eval (.tmp t)=.bool b:=zP hs
     cases b with
     | true=>exact wp_cond_true hc (kM hR hD hL hd.1 h.setdead he1 hQ)
     | false=>exact wp_cond_false hc (kM hR hD hL hd.2 h.setdead he2 hQ)
    ·cases he
   ·cases he
  ·rename_i b
   cases b with
   | true=>exact wp_cond_true rfl (kM hR hD hL hd.1 h he hQ)
   | false=>exact wp_cond_false rfl (kM hR hD hL hd.2 h he hQ)
  ·cases he
 | .loop b,σ,κ,r,Q,a,w,S,β,hd,h,he,hQ=>by
  simp only[AA4] at hd
  simp only[evB,A4j] at he
  obtain⟨o,h1,h2⟩:=Aq.1 he
  exact hL H f b _ o a w S β Q hd h1 h.killS fun a' w' S' β' e1 e2 h' hst=>hQ o a' w' S' β' h2 e1 e2 h' hst
 | .region id ops draw,σ,κ,r,Q,a,w,S,β,hd,h,he,hQ=>by
  simp only[AA4] at hd
  simp only[evB,A1b] at he
  have hin:∀ o ∈ ops.toList,opIn a.tmps.size o=true:=fun o ho=>AI.1 hd o ho
  have hl:(eI σ).length=a.tmps.size:=by simp[eI,h.len]
  have fin:∀ l' a' w' S' β',l'.length=a.tmps.size→κ ⟨.nm,Af1 (E.cfg f).keep l' l' 0⟩=some r→a'.tmps.size=a.tmps.size→a'.defers=a.defers→Rel H a.tmps.size (at? l') (vals a') w' S' β'→Step w S β w' S' β'→Q .normal a' w':=
   fun l' a' w' S' β' e0 hk e1 e2 h' hst=>hQ ⟨.nm,Af1 (E.cfg f).keep l' l' 0⟩ a' w' S' β' hk e1 e2 ⟨by rw[An2,e0,e1],by rw[e1];exact Bb2 h' e0⟩ hst
  cases draw with
  | false=>exact wp_region_list (by
    have:=AJ1 hR (all:=ops.toList) hl h.rel hin he fin
    simpa using this)
  | true=>
   have:=hD H (B3g (E.cfg f) id) ops.toList id (eI σ) a w S β _ r Q hl h.rel hin he fin
   simpa using this
end
end Go.Rf

end
section
namespace Go.Rf
set_option linter.unusedSectionVars false
variable [T:Laid]
def Ay6 (P:Program) (c:Code) (Q:Exit→Act→World→Prop) (a:Act) (w:World):Prop:=
 ∀ (b:Frame) (k:List Item) (cs:List Frame),∃ e a' w',Q e a' w'∧Arrives P (lone (b.at a (.code c :: .inLoop c :: k)) cs w) b k cs e a' w'
theorem Ay6.wp {P:Program} {c:Code} {Q:Exit→Act→World→Prop} {a:Act} {w:World} (h:Ay6 P c Q a w):(Code.loop c).wp P Q a w:=by
 intro b k cs
 obtain⟨e,a',w',hq,harr⟩:=h b k cs
 exact⟨e,a',w',hq,.of_steps (.one step_loop) harr⟩
theorem Ay6.round {P:Program} {c:Code} {Q:Exit→Act→World→Prop} {a:Act} {w:World} (h:c.wp P (Exit.then (Ay6 P c Q) Q) a w):Ay6 P c Q a w:=by
 intro b k cs
 obtain⟨e,a₁,w₁,hq,harr⟩:=h b (.inLoop c :: k) cs
 cases e with
 | normal=>
  obtain⟨e₂,a₂,w₂,hq₂,harr₂⟩:=(hq:Ay6 P c Q a₁ w₁) b k cs
  exact⟨e₂,a₂,w₂,hq₂,.of_steps (Steps.trans harr (.one step_inLoop)) harr₂⟩
 | exit id=>exact⟨_,a₁,w₁,hq,.pass (x:=.inLoop c) rfl (fun _ _=>.inl (by simp)) harr⟩
 | goto l=>exact⟨_,a₁,w₁,hq,.pass (x:=.inLoop c) rfl (fun _ _=>.inl (by simp)) harr⟩
 | ret=>exact⟨_,a₁,w₁,hq,.pass (x:=.inLoop c) rfl (fun _ _=>.inl (by simp)) harr⟩
 | panic ch=>exact⟨_,a₁,w₁,hq,.pass (x:=.inLoop c) rfl (fun _ _=>.inl (by simp)) harr⟩
 | outgrown=>exact⟨_,a₁,w₁,hq,.pass (x:=.inLoop c) rfl (fun _ _=>.inl (by simp)) harr⟩
section
variable {E:Env} {X:(f:FuncId)→Option (List Dyn→Option (E.cfg f).rt.D)}
def A0z (E:Env) (L:fT):Prop:=∀ (H:Nat→Option (List Value)) (f:FuncId) (b:Code) (σ:List SV) (o:Out) (a:Act) (w:World) (S:Nat→Prop) (β:Key→Option Nat) (Q:Exit→Act→World→Prop),
 AA4 a.tmps.size b=true→L f b σ=some o→RelS H σ a w S β →
 (∀ a' w' S' β',a'.tmps.size=a.tmps.size→a'.defers=a.defers→RelS H o.σ a' w' S' β'→Step w S β w' S' β'→Q (A5e o.e) a' w')→Ay6 E.P b Q a w
theorem A0z.ok {L:fT} (h:A0z E L):A7y E L:=fun H f b σ o a w S β Q hd hl hr hQ=>(h H f b σ o a w S β Q hd hl hr hQ).wp
end
end Go.Rf

end
section
namespace Go.Rf
set_option linter.unusedSectionVars false
variable [T:Laid]
section
variable {E:Env} {R:Run E} {ρ:Type}
def BX0 (all:List Oper) (o:Oper) (l:List Slot) (gs:List Nat):Prop:=
 (o.guard=none∧gs=[])∨∃ j want g,o.guard=some (j,want)∧(all[j]?).bind BI=some g∧gs=[g]∧(at? l g).sv=.dat ⟨.bool,want,.sh⟩
def BT1 (E : Env) (R : Run E) (mv : List Nat) (all : List Oper) (i : Nat) (o : Oper) (l : List Slot) (us : List Up) (rc : Rec) : Prop :=
  rc.wr = us.map Up.slot ∧ (∀ x, x ∈ Ac5 l us → x ∈ rc.bad) ∧
  ((opK E R (mv.any (AR i ·)) (nK l (A3v o l)) o some = some us ∧ ∃ gs, BX0 all o l gs ∧ (rc.fp = gs ++ A3v o l ∨
      (rc.fp = gs ∧ ∃ x s, o.op = .move x ∧ Ag6 (at? l) (mv.any (AR i ·)) x = some s ∧ rc.sf = [s]))) ∨
   (∃ j want g, o.guard = some (j, want) ∧ (all[j]?).bind BI = some g ∧ rc.fp = [g] ∧ ((at? l g).sv = .und ∨ (at? l g).sv = .dat ⟨.bool, !want, .sh⟩) ∧
      us = (match o.dst with | some d => [.put d .und] | none => [])))
theorem BF6 {E:Env} {R:Run E} {mv:List Nat} {all:List Oper} {i:Nat} {o:Oper} {l:List Slot} {us:List Up} {gs:List Nat} (h:opK E R (mv.any (AR i ·)) (nK l (A3v o l)) o some=some us) (hg:BX0 all o l gs):
  BT1 E R mv all i o l us (An4 (mv.any (AR i ·)) gs l o us):=by
 have key:A91 (mv.any (AR i ·)) l o=[]∨∃ x s,o.op=.move x∧Ag6 (at? l) (mv.any (AR i ·)) x=some s∧A91 (mv.any (AR i ·)) l o=[s]:=by
  unfold A91
  split
  ·rename_i x hx
   cases e:Ag6 (at? l) (mv.any (AR i ·)) x with
   | some s=>exact .inr ⟨x,s,hx,e,rfl⟩
   | none=>exact .inl rfl
  ·exact .inl rfl
 unfold An4
 rcases key with e|⟨x,s,h1,h2,e⟩
 ·rw[e];exact⟨rfl,fun _ h=>h,.inl ⟨h,gs,hg,.inl rfl⟩⟩
 ·rw[e];exact⟨rfl,fun _ h=>h,.inl ⟨h,gs,hg,.inr ⟨rfl,x,s,h1,h2,rfl⟩⟩⟩
theorem eR:∀ {us vs:List Up} {l:List Slot},eL l (us++vs)=eL (eL l us) vs
 | [],_,_=>rfl
 | u :: us,vs,l=>by simp only[A5,eL];exact eR
def A98 (E:Env) (R:Run E) (mv:List Nat) (all:List Oper) (κ:List Slot→Option ρ) (r:ρ) (os:List Oper) (i:Nat) (l:List Slot) (acc:List Rec):Prop:=
 ∃ (uss:List (List Up)) (rcs:List Rec),uss.length=os.length∧rcs.length=os.length∧κ (eL l uss.flatten)=some r∧(A6l (Al2 all) (acc++rcs) 0=true∧Bj9 (acc++rcs)=true)∧AT2 all 0=true ∧
  ∀ (j:Nat) (o:Oper) (us:List Up) (rc:Rec),os[j]?=some o→uss[j]?=some us→rcs[j]?=some rc→BT1 E R mv all (i+j) o (eL l (uss.take j).flatten) us rc
theorem A2o {mv:List Nat} {all:List Oper} {κ:List Slot→Option ρ} {r:ρ}:∀ {os:List Oper} {i:Nat} {l:List Slot} {acc:List Rec},bR E R mv all true os i l acc κ=some r→A98 E R mv all κ r os i l acc
 | [],i,l,acc,h=>by
  simp only[bR,Az] at h
  split at h
  ·rename_i hc
   simp only[Ad] at hc
   exact⟨[],[],rfl,rfl,h,⟨by simpa using hc.1.1,by simpa using hc.1.2⟩,hc.2,by simp⟩
  ·cases h
 | o :: os,i,l,acc,h=>by
  have step:∀ {us:List Up} {rc:Rec},BT1 E R mv all i o l us rc→bR E R mv all true os (i+1) (eL l us) (acc++[rc]) κ=some r →
    A98 E R mv all κ r (o :: os) i l acc:=by
   intro us rc hs hk
   obtain⟨uss,rcs,h1,h2,h3,h4,h5,h6⟩:=A2o hk
   refine⟨us :: uss,rc :: rcs,by simp[h1],by simp[h2],by simpa[eR] using h3,by simpa using h4,h5,fun j o' us' rc' e1 e2 e3=>?_⟩
   cases j with
   | zero=>
    simp only[Ao,Aa] at e1 e2 e3
    subst e1;subst e2;subst e3
    simpa[eL] using hs
   | succ j=>
    have:=h6 j o' us' rc' (by simpa using e1) (by simpa using e2) (by simpa using e3)
    rw[show i+1+j=i+(j+1) by omega] at this
    simpa[eR] using this
  have hgo:∀ {gs:List Nat},((o.guard=none∧gs=[])∨∃ j want g,o.guard=some (j,want)∧(all[j]?).bind BI=some g∧gs=[g]∧(at? l g).sv=.dat ⟨.bool,want,.sh⟩) →
    opK E R (mv.any (AR i ·)) (nK l (A3v o l)) o (fun us=>bR E R mv all true os (i+1) (eL l us) (acc++[An4 (mv.any (AR i ·)) gs l o us]) κ)=some r→A98 E R mv all κ r (o :: os) i l acc:=by
   intro gs hg hk
   rw[AI1] at hk
   obtain⟨us,e1,e2⟩:=Aq.1 hk
   exact step (us:=us) (rc:=An4 (mv.any (AR i ·)) gs l o us) (BF6 e1 hg) e2
  have hskip:∀ {j:Nat} {want:Bool} {g:Nat},o.guard=some (j,want)→(all[j]?).bind BI=some g→((at? l g).sv=.und∨(at? l g).sv=.dat ⟨.bool,!want,.sh⟩) →
    (match o.dst with
     | some d=>bR E R mv all true os (i+1) (upL l (.put d .und)) (acc++[⟨[g],[d],[],[d]⟩]) κ
     | none=>bR E R mv all true os (i+1) l (acc++[⟨[g],[],[],[]⟩]) κ)=some r→A98 E R mv all κ r (o :: os) i l acc:=by
   intro j want g h1 h2 h3 hk
   have bad1:∀ {d:Nat},∀ x,x ∈ Ac5 l [.put d .und]→x ∈ [d]:=fun {d} x hx=>(List.mem_filter.1 hx).1
   cases hd:o.dst with
   | some d=>
    rw[hd] at hk
    exact step (us:=[.put d .und]) (rc:=⟨[g],[d],[],[d]⟩) ⟨rfl,bad1,.inr ⟨j,want,g,h1,h2,rfl,h3,by rw[hd]⟩⟩ hk
   | none=>
    rw[hd] at hk
    exact step (us:=[]) (rc:=⟨[g],[],[],[]⟩) ⟨rfl,fun _ h=>h,.inr ⟨j,want,g,h1,h2,rfl,h3,by rw[hd]⟩⟩ hk
  unfold bR at h
  simp only at h
  split at h
  ·rename_i hg
   exact hgo (gs:=[]) (.inl ⟨hg,rfl⟩) h
  ·rename_i j want hg
   split at h
   ·cases h
   ·rename_i g hgd
    split at h
    ·rename_i t hv
     cases t with
     | true=>
      simp only[Cb] at h
      rw[AW5 hv] at h
      cases want with
      | true=>exact hgo (gs:=[g]) (.inr ⟨j,true,g,hg,hgd,rfl,hv⟩) h
      | false=>exact hskip hg hgd (.inr hv) h
     | false=>
      simp only[BT] at h
      rw[AW5 hv] at h
      cases want with
      | true=>exact hskip hg hgd (.inr hv) h
      | false=>exact hgo (gs:=[g]) (.inr ⟨j,false,g,hg,hgd,rfl,hv⟩) h
    ·rename_i hv
     exact hskip hg hgd (.inl hv) h
    ·cases h
end
end Go.Rf

end
section
namespace Go.Rf
set_option linter.unusedSectionVars false
variable [T:Laid]
def AE7 (x:Nat) (s:Slot):List Up→Slot
 | []=>s
 | u :: us=>AE7 x (if x=u.slot then u.on s else s) us
theorem cI {x:Nat}:∀ {us vs:List Up} {s:Slot},AE7 x s (us++vs)=AE7 x (AE7 x s us) vs
 | [],_,_=>rfl
 | u :: us,vs,s=>by simp only[A5,AE7];exact cI
theorem aG {x:Nat}:∀ {us:List Up} {s:Slot},(∀ u ∈ us,u.slot≠x)→AE7 x s us=s
 | [],_,_=>rfl
 | u :: us,s,h=>by
  simp only[AE7]
  rw[As (fun e=>h u (by simp) e.symm)]
  exact aG fun v hv=>h v (by simp[hv])
theorem bG {x:Nat}:∀ {us:List Up} {l:List Slot},x < l.length→at? (eL l us) x=AE7 x (at? l x) us
 | [],_,_=>rfl
 | u :: us,l,h=>by
  simp only[eL,AE7]
  rw[bG (by rw[Aq2];exact h),BW2 h]
  by_cases e:x=u.slot
  ·subst e;rw[jC,AE rfl]
  ·rw[oQ e,As e]
def sel (L:Nat→Bool):List (List Up)→Nat→List Up
 | [],_=>[]
 | us :: r,k=>(if L k then us else [])++sel L r (k+1)
theorem Ag9 {x:Nat} {L M:Nat→Bool}:∀ {uss:List (List Up)} {k:Nat} {s:Slot},(∀ j us,uss[j]?=some us→(∃ u ∈ us,u.slot=x)→L (k+j)=M (k+j))→AE7 x s (sel L uss k)=AE7 x s (sel M uss k)
 | [],_,_,_=>rfl
 | us :: r,k,s,h=>by
  simp only[sel]
  rw[cI,cI]
  have h0:AE7 x s (if L k then us else [])=AE7 x s (if M k then us else []):=by
   by_cases hx:∃ u ∈ us,u.slot=x
   ·have:=h 0 us rfl hx
    rw[Ay] at this
    rw[this]
   ·have hn:∀ u ∈ us,u.slot≠x:=fun u hu e=>hx ⟨u,hu,e⟩
    split<;>split<;>first|rfl|(rw[aG hn];rfl)
  rw[h0]
  exact Ag9 fun j us' hj hx=>by
   have:=h (j+1) us' (by simpa using hj) hx
   rw[show k+(j+1)=k+1+j by omega] at this
   exact this
theorem A4F {i:Nat}:∀ {uss:List (List Up)} {k:Nat},sel (fun j=>decide (j < k+i)) uss k=(uss.take i).flatten:=by
 induction i with
 | zero=>
  intro uss
  have:∀ (uss:List (List Up)) (k m:Nat),m≤k→sel (fun j=>decide (j < m)) uss k=[]:=by
   intro uss
   induction uss with
   | nil=>intro k m _;rfl
   | cons us r ih=>intro k m h;simp only[sel];rw[As (by simp;omega),ih (k+1) m (by omega)];rfl
  intro k;simpa using this uss k k (Al _)
 | succ i ih=>
  intro uss k
  cases uss with
  | nil=>rfl
  | cons us r=>
   simp only[sel,List.take_succ_cons,List.flatten_cons]
   rw[AE (by simp)]
   have:=ih (uss:=r) (k:=k+1)
   rw[show k+1+i=k+(i+1) by omega] at this
   rw[this]
end Go.Rf

end
section
namespace Go.Rf
set_option linter.unusedSectionVars false
variable [T:Laid]
theorem Am5 {a b:List Nat}:BF9 a b=true↔∃ x,x ∈ a∧x ∈ b:=by
 simp only[BF9,List.any_eq_true,A3]
 constructor
 ·rintro⟨x,hx,y,hy,e⟩;exact⟨x,hx,e▸hy⟩
 ·rintro⟨x,hx,hy⟩;exact⟨x,hx,x,hy,rfl⟩
def B3j (r q:Rec):Prop:=(∀ x,x ∈ r.wr→x ∉ q.fp)∧(∀ x,x ∈ r.wr→x ∉ q.wr)∧∀ x,x ∈ q.wr→x ∉ r.fp
theorem BC3 {b:List Nat} {r:Rec} {i:Nat}:∀ {qs:List Rec} {j:Nat},A6l.go b r i qs j=true→∀ k q,qs[k]?=some q→Bf (b.getD (j+k) 0) i=true∨B3j r q
 | [],_,_,_,_,h=>by simp at h
 | q :: qs,j,h,k,q',hk=>by
  simp only[A6l.go,Ad] at h
  cases k with
  | zero=>
   simp only[Ao,Aa] at hk;subst hk
   have h1:=h.1
   simp only[Ba,Ad,A8] at h1
   rcases h1 with h1|⟨⟨h1,h2⟩,h3⟩
   ·exact .inl h1
   ·refine .inr ⟨fun x hx hy=>?_,fun x hx hy=>?_,fun x hx hy=>?_⟩
    ·rw[Am5.2 ⟨x,hx,hy⟩] at h1;cases h1
    ·rw[Am5.2 ⟨x,hx,hy⟩] at h2;cases h2
    ·rw[Am5.2 ⟨x,hx,hy⟩] at h3;cases h3
  | succ k=>
   have:=BC3 h.2 k q' (by simpa using hk)
   rw[show j+1+k=j+(k+1) by omega] at this
   exact this
theorem A3F {b:List Nat}:∀ {rs:List Rec} {m:Nat},A6l b rs m=true→∀ i j r q,i < j→rs[i]?=some r→rs[j]?=some q→Bf (b.getD (m+j) 0) (m+i)=true∨B3j r q
 | [],_,_,_,_,_,_,_,h,_=>by simp at h
 | r0 :: rs,m,h,i,j,r,q,hij,hi,hj=>by
  simp only[A6l,Ad] at h
  cases j with
  | zero=>omega
  | succ j=>
   cases i with
   | zero=>
    simp only[Ao,Aa] at hi;subst hi
    have:=BC3 h.1 j q (by simpa using hj)
    rw[show m+1+j=m+(j+1) by omega] at this
    simpa using this
   | succ i=>
    have:=A3F h.2 i j r q (by omega) (by simpa using hi) (by simpa using hj)
    rw[show m+1+j=m+(j+1) by omega,show m+1+i=m+(i+1) by omega] at this
    exact this
end Go.Rf

end
section
namespace Go.Rf
set_option linter.unusedSectionVars false
variable [T:Laid]
def Af7 (acc:Array Nat) (o:Oper):Array Nat:=acc.push (o.after.foldl (fun s e=>if AZ .any e then s ||| 2 ^ e.on ||| acc.getD e.on 0 else s) 0)
theorem Ao8:∀ {os:List Oper} {acc:Array Nat} {k:Nat},k < acc.size→(os.foldl Af7 acc).getD k 0=acc.getD k 0
 | [],_,_,_=>rfl
 | o :: os,acc,k,h=>by
  simp only[AU]
  rw[Ao8 (by simp[Af7];omega)]
  simp[Af7,AF,Br,Nat.ne_of_lt h]
theorem A6C:∀ {os:List Oper} {acc:Array Nat} {i:Nat} {o:Oper},os[i]?=some o→∃ pre:Array Nat,pre.size=acc.size+i∧(∀ k,k < pre.size→pre.getD k 0=(os.foldl Af7 acc).getD k 0) ∧
  (os.foldl Af7 acc).getD (acc.size+i) 0=o.after.foldl (fun s e=>if AZ .any e then s ||| 2 ^ e.on ||| pre.getD e.on 0 else s) 0
 | [],_,_,_,h=>by simp at h
 | o' :: os,acc,i,o,h=>by
  cases i with
  | zero=>
   simp only[Ao,Aa] at h;subst h
   refine⟨acc,rfl,fun k hk=>?_,?_⟩
   ·simp only[AU]
    rw[Ao8 (by simp[Af7];omega)]
    simp[Af7,AF,Br,Nat.ne_of_lt hk]
   ·simp only[AU,Ay]
    rw[Ao8 (by simp[Af7])]
    simp[Af7,AF]
  | succ i=>
   obtain⟨pre,h1,h2,h3⟩:=A6C (acc:=Af7 acc o') (i:=i) (by simpa using h)
   have hs:(Af7 acc o').size=acc.size+1:=by simp[Af7]
   refine⟨pre,by rw[h1,hs];omega,h2,?_⟩
   simp only[AU]
   rw[show acc.size+(i+1)=(Af7 acc o').size+i by rw[hs];omega]
   exact h3
theorem A5C {f:Edge→Nat} {m:Nat}:∀ {es:List Edge} {s:Nat},Bf (es.foldl (fun s e=>if AZ .any e then s ||| 2 ^ e.on ||| f e else s) s) m=true →
  Bf s m=true∨∃ e ∈ es,AZ .any e=true∧(e.on=m∨Bf (f e) m=true)
 | [],s,h=>.inl h
 | e :: es,s,h=>by
  simp only[AU] at h
  rcases A5C h with h|⟨e',h1,h2⟩
  ·split at h
   ·rename_i hb
    simp only[Nat.testBit_or,Ba,Nat.testBit_two_pow,Ar] at h
    rcases h with (h|h)| h
    ·exact .inl h
    ·exact .inr ⟨e,by simp,hb,.inl h⟩
    ·exact .inr ⟨e,by simp,hb,.inr h⟩
   ·exact .inl h
  ·exact .inr ⟨e',by simp[h1],h2⟩
theorem A4k:∀ {os:List Oper} {m i:Nat} {o:Oper} {e:Edge},AT2 os m=true→os[i]?=some o→e ∈ o.after.toList→AZ .any e=true→e.on < m+i
 | [],_,_,_,_,_,h,_,_=>by simp at h
 | o' :: os,m,i,o,e,h,hi,he,hb=>by
  simp only[AT2,Ad] at h
  cases i with
  | zero=>
   simp only[Ao,Aa] at hi;subst hi
   have:=AI.1 h.1 e he
   simpa[B6,hb] using this
  | succ i=>have:=A4k h.2 (by simpa using hi) he hb;omega
theorem BG8 {ops:List Oper} {i m:Nat} {o:Oper} (he:AT2 ops 0=true) (hi:ops[i]?=some o) (h:Bf ((Al2 ops).getD i 0) m=true):
  ∃ e ∈ o.after.toList,AZ .any e=true∧e.on < i∧(e.on=m∨Bf ((Al2 ops).getD e.on 0) m=true):=by
 have hb:∀ k,(Al2 ops).getD k 0=(ops.foldl Af7 #[]).getD k 0:=fun k=>by
  unfold Al2 Region.before
  have:(ops.toArray.foldl (fun acc o=>acc.push (o.after.foldl (fun s e=>if AZ .any e then s ||| 2 ^ e.on ||| acc.getD e.on 0 else s) 0)) #[])=ops.foldl Af7 #[]:=by
   rw[← Bw];rfl
  rw[this]
  simp[A9,AF]
 rw[hb] at h
 obtain⟨pre,h1,h2,h3⟩:=A6C (acc:=#[]) hi
 simp only[AW,List.length_nil,A2] at h1 h3
 rw[h3,← Bw] at h
 rcases A5C h with h|⟨e,e1,e2,e3⟩
 ·simp at h
 ·have hlt:=A4k he hi e1 e2
  rw[A2] at hlt
  refine⟨e,e1,e2,hlt,e3.imp id fun h=>?_⟩
  rw[hb,← h2 e.on (by omega)];exact h
end Go.Rf

end
