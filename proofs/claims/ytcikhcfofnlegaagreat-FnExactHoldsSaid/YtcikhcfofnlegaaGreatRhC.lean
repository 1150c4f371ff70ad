/- An interpreter of the code over plain data, proved right against the machine: part 3. No condition. -/
import Derived.Test.YtcikhcfofnlegaaGreatRhB
import Derived.OpenShut
import Derived.ChangeOld
import Derived.WalkKit
import Derived.ProofKit
import Derived.ShutString
import Derived.SizedLaws
import Derived.Test.YtcikhcfofnlegaaGreatRhA
open Option.some renaming injEq->Aa,inj->Av
open List renaming getElem?_eq_getElem->Ab,mem_cons->Ag,map_cons->Ai,cons_append->Aj,getElem?_eq_some_iff->Am,drop_eq_nil_of_le->As,mem_map->Au,mem_singleton->Ay,getD_eq_getElem?_getD->Az,getElem?_eq_none->A0,mem_append->A1,getElem?_cons_zero->A2,mem_append_right->A5,mem_append_left->A7,any_eq_true->A8,append_cancel_left->AD,getElem?_toArray->AG,mem_of_getElem?->AK,getElem?_append_right->AP,getElem?_append_left->AQ,length->AS,all_eq_true->AU,length_eq_zero_iff->AW,nil_append->AY,mem_iff_getElem->A',mem_cons_of_mem->Ba,mem_map_of_mem->Bb,any_cons->Bc,all_cons->Bd,sum_cons->Be,mem_cons_self->Bg,flatten_cons->Bh,append_assoc->Bi,ext_getElem?->Bj,getElem?_set->Bm,mem_flatMap->Bo,length_cons->Bp,mem_filter->Bs,append_nil->Bt
open Bool renaming and_eq_true->Ac,not_eq_true'->Aq,or_eq_true->AZ,false_eq_true->Bf,eq_iff_iff->Bu,false_or->Bw
open Option renaming map_eq_some_iff->Ad,bind_eq_some_iff->Ae,getD_some->AI,map_some->AL,bind_some->AV,bind_assoc->Bk
open List.cons renaming injEq->Af
open Array renaming getD_eq_getD_getElem?->Ah,getElem?_eq_getElem->Aw,getElem?_eq_some_iff->Ax,getElem?_toList->AH,replicate->AM,getElem?_replicate->AT,all_toList->Bn,toList_inj->Br
open _root_ renaming if_pos->Ak,if_neg->Ao,cond_false->A4,decide_eq_true_eq->A6,cond_true->A9,if_true->AJ,decide_eq_true->AO,decide_eq_false->AX
open Nat renaming le_refl->Al,beq->Ap,eq_of_beq_eq_true->At,le_max_right->A3,le_max_left->AB,lt_of_lt_of_le->AC,zero_add->AF,lt_or_ge->AN,testBit->AR
open Prod.mk renaming injEq->Ar
open Go.Region renaming wanted->AA,binds->Bx
open Classical renaming propDecidable->AE
open Go.IntKind renaming wrap->Bl
open Go.Deferred renaming ofValue->Bq
open Go.Addr renaming add->Bv
set_option linter.unusedVariables false
set_option linter.unusedSimpArgs false
section
namespace Go.Rf
set_option linter.unusedSectionVars false
variable [T:Laid]
def cf:List Bool→Nat
 | []=>0
 | b :: l=>(if b then 0 else 1)+cf l
theorem Bx8:∀ {l:List Bool} {i:Nat},l[i]?=some false→cf (l.set i true)+1=cf l
 | [],_,h=>by simp at h
 | b :: l,0,h=>by simp only[A2,Aa] at h;subst h;simp[cf];omega
 | b :: l,i+1,h=>by simp only[List.set_cons_succ,cf];have:=Bx8 (l:=l) (i:=i) (by simpa using h);omega
theorem BW1:∀ {l:List Bool} {i:Nat},cf l=0→l[i]?≠some false
 | [],_,_=>by simp
 | b :: l,0,h=>by
  simp only[cf] at h
  simp only[A2,ne_eq,Aa]
  intro e;subst e;simp at h
 | b :: l,i+1,h=>by
  simp only[cf] at h
  simpa using BW1 (l:=l) (i:=i) (by omega)
theorem BX1 {L:Nat→Bool}:∀ {uss:List (List Up)} {k:Nat},(∀ j,j < uss.length→L (k+j)=true)→sel L uss k=uss.flatten
 | [],_,_=>rfl
 | us :: r,k,h=>by
  simp only[sel,Bh]
  rw[Ak (by simpa using h 0 (by simp)),BX1 fun j hj=>by
   have:=h (j+1) (by simp;omega)
   rw[show k+(j+1)=k+1+j by omega] at this
   exact this]
section
variable {P:Program} {H:Nat→Option (List Value)} {N:Nat} {g:yL} {V:Nat→Option Value} {w w':World} {S S':Nat→Prop} {β β':Key→Option Nat} {a:Act}
variable {E:Env} {R:Run E}
theorem Rel.heap (h:Rel H N g V w S β) (hw:w'.heap=w.heap) (hD:yW N g):Rel H N g V w' S β:=by
 have h1:Rel H N (g.up (.put N .dead)) V w' S β:=h.put ⟨h.sane.inj,h.sane.sep,fun k b hk=>by rw[hw];exact h.sane.live k b hk,fun b hk=>by rw[hw];exact h.sane.liveS b hk,h.sane.tabs fun b hb=>⟨hb,by rw[hw]⟩⟩
  (fun b hb=>⟨hb,by rw[hw]⟩) (fun _ _ _ _ _ hb=>⟨hb,by rw[hw]⟩) (fun _ _=>rfl) trivial
 exact h1.fin (fun i hi=>(nJ (by omega)).symm) hD (fun _ _=>rfl)
theorem BH0 {l l':List Slot} {fp:List Nat} (h:∀ x ∈ fp,at? l x=at? l' x):nK l fp=nK l' fp:=by
 funext i
 unfold nK
 by_cases hi:(fp.any (Ap i ·))=true
 ·rw[Ak hi,Ak hi]
  obtain⟨x,hx,e⟩:=A8.1 hi
  have:i=x:=by simpa[Nat.beq_eq] using e
  rw[this];exact h x hx
 ·rw[Ao hi,Ao hi]
theorem A1f {ops:List Oper} {listed:Array Bool} {i:Nat}:i ∈ Region.ready .any ops.toArray listed↔∃ o,ops[i]?=some o∧listed.getD i true=false∧∀ e ∈ o.after.toList,Bx .any e=true→listed.getD e.on false=true:=by
 unfold Region.ready
 rw[Bs,List.mem_range]
 constructor
 ·rintro⟨h1,h2⟩
  have h1:i < ops.length:=by simpa using h1
  simp only[AG,Ab h1,AL,AI,Ac,Aq] at h2
  refine⟨_,Ab h1,h2.1,fun e he hb=>?_⟩
  have h3:=h2.2
  rw[← Bn] at h3
  have:=AU.1 h3 e he
  rw[hb] at this
  simpa using this
 ·rintro⟨o,h1,h2,h3⟩
  have hl:i < ops.length:=(Am.1 h1).1
  refine⟨by simpa using hl,?_⟩
  simp only[AG,h1,AL,AI,Ac,Aq]
  refine⟨h2,?_⟩
  rw[← Bn]
  refine AU.2 fun e he=>?_
  cases hb:Bx .any e with
  | true=>simp[h3 e he hb]
  | false=>rfl
theorem BB6 {listed:Array Bool} {i:Nat} (h:listed.getD i true=false):i < listed.size∧listed.getD i false=false:=by
 rw[Ah] at h ⊢
 cases hb:listed[i]? with
 | none=>rw[hb] at h;simp at h
 | some b=>
  rw[hb] at h
  simp only[AI] at h
  exact⟨(Ax.1 hb).1,by simp[h]⟩
theorem BG1 {listed:Array Bool} {i:Nat} (hi:i < listed.size) (h:listed.getD i false=false):listed.getD i true=false:=by
 rw[Ah,Aw hi] at h ⊢
 exact h
theorem A4f {listed:Array Bool} {i j:Nat} (hi:i < listed.size):(listed.setIfInBounds i true).getD j false=(decide (j=i)|| listed.getD j false):=by
 rw[Ah,Ah,Array.getElem?_setIfInBounds]
 by_cases e:i=j
 ·subst e;simp[hi]
 ·simp[e,Ne.symm e]
theorem BU8 {ops:List Oper} {listed:Array Bool} (hs:listed.size=ops.length) (he:AT2 ops 0=true) (h:Region.ready .any ops.toArray listed=[]):∀ i,i < ops.length→listed.getD i false=true:=by
 intro i
 induction i using Nat.strongRecOn with
 | ind i ih=>
  intro hi
  cases hb:listed.getD i false with
  | true=>rfl
  | false=>
   have:i ∈ Region.ready .any ops.toArray listed:=A1f.2 ⟨ops[i],Ab hi,BG1 (by omega) hb,fun e h1 hbd=>by
    have:=A4k he (Ab hi) h1 hbd
    exact ih e.on (by omega) (by omega)⟩
   rw[h] at this;cases this
theorem A8u {uss:List (List Up)} {rcs:List Rec} {L:Nat→Bool} {b:List Nat} {i:Nat} {rc:Rec} (hn:uss.length=rcs.length) (hw:∀ (j:Nat) us q,uss[j]?=some us→rcs[j]?=some q→q.wr=us.map Up.slot)
  (hsp:∀ i j r q,i < j→rcs[i]?=some r→rcs[j]?=some q→AR (b.getD j 0) i=true∨B3j r q)
  (hcl:∀ j m,L j=true→AR (b.getD j 0) m=true→L m=true) (hci:∀ m,AR (b.getD i 0) m=true→L m=true) (hL:L i=false) (hrc:rcs[i]?=some rc)
  {x:Nat} (hx:x ∈ rc.fp∨x ∈ rc.wr):∀ (j:Nat) us,uss[j]?=some us→(∃ u ∈ us,u.slot=x)→L j=decide (j < i):=by
 intro j us hj hu
 have hjl:j < uss.length:=(Am.1 hj).1
 obtain⟨q,hq⟩:∃ q,rcs[j]?=some q:=⟨_,Ab (by omega)⟩
 have hxq:x ∈ q.wr:=by
  rw[hw j us q hj hq]
  obtain⟨u,h1,h2⟩:=hu
  exact Au.2 ⟨u,h1,h2⟩
 rcases Nat.lt_trichotomy j i with h|h|h
 ·rw[AO h]
  rcases hsp j i q rc h hq hrc with h1|⟨h1,h2,h3⟩
  ·exact hci j h1
  ·rcases hx with hx|hx
   ·exact absurd hx (h1 x hxq)
   ·exact absurd hx (h2 x hxq)
 ·subst h;simpa using hL
 ·rw[AX (by omega)]
  cases hb:L j with
  | false=>rfl
  | true=>
   rcases hsp i j rc q h hrc hq with h1|⟨h1,h2,h3⟩
   ·rw[hcl j i hb h1] at hL;cases hL
   ·rcases hx with hx|hx
    ·exact absurd hx (h3 x hxq)
    ·exact absurd hxq (h2 x hx)
theorem A53 {l:List Slot} {x:Nat} (h:l.length≤x):at? l x=Slot.dead:=by
 unfold at?;simp[List.getD,A0 h]
def PO (t:Ty) (k:Nat) (s:Slot):Prop:=A25 s.sv=some t∧s.s=k
theorem A7z {x:Nat}:∀ {us:List Up} {s:Slot},us.any (A32 x)=false→(AE7 x s us).s=s.s
 | [],_,_=>rfl
 | u :: us,s,h=>by
  rw[Bc,Bool.or_eq_false_iff] at h
  simp only[AE7]
  rw[A7z h.2]
  split
  ·rename_i hx
   cases u with
   | put r v=>
    have:Ap x r=true:=by rw[show x=r from hx];exact Nat.beq_refl r
    rw[show A32 x (.put r v)=Ap x r from rfl,this] at h
    exact absurd h.1 (by decide)
   | mod r v=>rfl
   | pub r v=>rfl
  ·rfl
theorem BA2 {x:Nat}:∀ {us:List Up} {s s':Slot},x ∈ us.map Up.slot→(AE7 x s us).sv=(AE7 x s' us).sv
 | [],_,_,h=>by cases h
 | u :: us,s,s',h=>by
  simp only[AE7]
  by_cases hm:x ∈ us.map Up.slot
  ·exact BA2 hm
  ·have hx:x=u.slot:=by
    rw[Ai,Ag] at h
    exact h.resolve_right hm
   have hq:∀ v ∈ us,v.slot≠x:=fun v hv e=>hm (e▸Bb hv)
   rw[Ak hx,Ak hx,aG hq,aG hq]
   cases u<;>rfl
theorem BB0 {x:Nat} {t:Ty} {k:Nat} {us:List Up} {l:List Slot} (hl:x < l.length) (hb:x ∉ Ac5 l us):
  (PO t k (at? l x)↔PO t k (at? (eL l us) x))∧(PO t k (at? l x)→∀ s,PO t k s→PO t k (AE7 x s us)):=by
 rw[bG hl]
 by_cases hm:x ∈ us.map Up.slot
 ·have he:A0H l us x=true:=by
   cases he:A0H l us x with
   | true=>rfl
   | false=>exact absurd (Bs.2 ⟨hm,by rw[he];rfl⟩) hb
  unfold A0H at he
  rw[Ac,bG hl] at he
  have hp:us.any (A32 x)=false:=by simpa using he.1
  have he2:=he.2
  split at he2
  ·rename_i a b e1 e2
   have hab:a=b:=of_decide_eq_true he2
   subst hab
   refine⟨?_,fun h s hs=>?_⟩
   ·unfold PO
    rw[A7z hp,e1,e2]
   ·refine⟨?_,by rw[A7z hp];exact hs.2⟩
    rw[BA2 (s':=at? l x) hm,e2,← e1];exact h.1
  ·cases he2
 ·have hn:∀ s,AE7 x s us=s:=fun s=>aG (fun v hv e=>hm (e▸Bb hv))
  rw[hn]
  exact⟨Iff.rfl,fun _ s hs=>by rw[hn];exact hs⟩
theorem A6t {x:Nat} {t:Ty} {k:Nat}:∀ {uss:List (List Up)} {l:List Slot} {i:Nat},x < l.length→(∀ j us,uss[j]?=some us→x ∉ Ac5 (eL l (uss.take j).flatten) us) →
  PO t k (at? (eL l (uss.take i).flatten) x)→PO t k (at? l x)
 | [],l,i,_,_,h=>by simpa[eL] using h
 | us :: uss,l,0,_,_,h=>by simpa[eL] using h
 | us :: uss,l,i+1,hl,hb,h=>by
  have h0:x ∉ Ac5 l us:=by have:=hb 0 us rfl;simpa[eL] using this
  refine (BB0 hl h0).1.2 (A6t (uss:=uss) (l:=eL l us) (i:=i) (by rw[lT];exact hl) (fun j us' hj=>?_) ?_)
  ·have:=hb (j+1) us' (by simpa using hj)
   simpa[eR] using this
  ·simpa[eR] using h
theorem BA4 {x:Nat} {t:Ty} {k:Nat} {L:Nat→Bool}:∀ {uss:List (List Up)} {l:List Slot} {kk:Nat},x < l.length→(∀ j us,uss[j]?=some us→x ∉ Ac5 (eL l (uss.take j).flatten) us) →
  PO t k (at? l x)→∀ s,PO t k s→PO t k (AE7 x s (sel L uss kk))
 | [],l,kk,_,_,_,s,hs=>hs
 | us :: uss,l,kk,hl,hb,h,s,hs=>by
  have h0:x ∉ Ac5 l us:=by have:=hb 0 us rfl;simpa[eL] using this
  obtain⟨h1,h2⟩:=BB0 (t:=t) (k:=k) hl h0
  simp only[sel]
  rw[cI]
  refine BA4 (uss:=uss) (l:=eL l us) (by rw[lT];exact hl) (fun j us' hj=>?_) (h1.1 h) _ ?_
  ·have:=hb (j+1) us' (by simpa using hj)
   simpa[eR] using this
  ·split
   ·exact h2 h s hs
   ·exact hs
theorem AV5 {l:List Slot} {fp:List Nat} {s:Nat} (h:s ∈ fp):nK l fp s=at? l s:=by
 unfold nK
 rw[Ak]
 exact A8.2 ⟨s,h,by simp⟩
theorem B0V {l l':List Slot} {fp fp':List Nat} {mv:Bool} {o:Oper} {x:Operand} {s:Nat} {us:List Up} (hm:o.op=.move x) (hs:Ag6 (at? l) mv x=some s) (hk:opK E R mv (nK l fp) o some=some us) (h1:s ∈ fp) (h2:s ∈ fp')
  {t:Ty} (hp:PO t (at? l s).s (at? l' s)):opK E R mv (nK l' fp') o some=some us:=by
 unfold Ag6 at hs
 split at hs
 ·rename_i s0
  split at hs
  ·rename_i hc
   cases hs
   simp only[Ac] at hc
   have e1:Ag6 (nK l fp) mv (.tmp s)=some s:=by
    unfold Ag6
    simp only
    rw[AV5 h1,Ak (by simp[hc.1,hc.2])]
   have e2:Ag6 (nK l' fp') mv (.tmp s)=some s:=by
    unfold Ag6
    simp only
    rw[AV5 h2,Ak (by simp[hc.1,hp.1])]
   unfold opK at hk ⊢
   rw[hm] at hk ⊢
   simp only at hk ⊢
   unfold A7m at hk ⊢
   rw[e1] at hk
   rw[e2]
   simp only at hk ⊢
   rw[AV5 h1] at hk
   rw[AV5 h2,hp.2]
   exact hk
  ·cases hs
 ·cases hs
theorem B0q {l:List Slot} {o:Oper} {mv:Bool} {x:Operand} {s:Nat} (hm:o.op=.move x) (hs:Ag6 (at? l) mv x=some s):s ∈ A3v o l:=by
 unfold Ag6 at hs
 split at hs
 ·split at hs
  ·cases hs
   unfold A3v
   rw[hm]
   simp[Op.operands,Au0]
  ·cases hs
 ·cases hs
theorem B1S (hR:Ag4 E R) (hm:E.P.follows .mixedOrders=true):A49 E R:=by
 intro ρ H mv ops id l a w S β κ r Q hl hrel hin hk hQ
 obtain⟨uss,rcs,hu,hrc,hκ,⟨hap,hnb⟩,hed,hst⟩:=A2o hk
 simp only[AY] at hap hnb
 have hsp:=A3F hap
 simp only[AF] at hsp hst
 have hwr:∀ (j:Nat) us q,uss[j]?=some us→rcs[j]?=some q→q.wr=us.map Up.slot:=fun j us q h1 h2=>by
  have hj:j < ops.length:=by have:=(Am.1 h1).1;omega
  exact (hst j ops[j] us q (Ab hj) h1 h2).1
 refine wp_region_any hm ?_
 have hw1:Rel H a.tmps.size (at? l) (vals a) { w with drawn:=w.drawn+1 } S β:=hrel.heap rfl (hl▸Bh0)
 have hs1:Step w S β { w with drawn:=w.drawn+1 } S β:=⟨Al _,fun _ _ _=>rfl,fun k _ hb=>.inl ⟨k,hb⟩,fun _ hb=>hb,fun _ hb=>.inl hb,⟨rfl,rfl,rfl⟩⟩
 have hn:ops.toArray.size=ops.length:=by simp
 have fin:∀ (listed:Array Bool) (a':Act) (w':World) (S':Nat→Prop) (β':Key→Option Nat),(∀ i,i < ops.length→listed.getD i false=true)→a'.tmps.size=a.tmps.size→a'.defers=a.defers →
   Rel H a.tmps.size (at? (eL l (sel (fun i=>listed.getD i false) uss 0))) (vals a') w' S' β'→Step w S β w' S' β'→Q .normal a' w':=by
  intro listed a' w' S' β' hall e1 e2 hr hstep
  have hlast:=BX1 (L:=fun i=>listed.getD i false) (uss:=uss) (k:=0) (fun j hj=>by rw[AF];exact hall j (by omega))
  exact hQ _ a' w' S' β' (by rw[lT];exact hl) (by rw[← hlast] at hκ;exact hκ) e1 e2 hr hstep
 have key:∀ (fuel:Nat) (listed:Array Bool) (a':Act) (w':World) (S':Nat→Prop) (β':Key→Option Nat),listed.size=ops.length→cf listed.toList=fuel →
   (∀ i m,listed.getD i false=true→AR ((Al2 ops).getD i 0) m=true→listed.getD m false=true)→a'.tmps.size=a.tmps.size→a'.defers=a.defers →
   Rel H a.tmps.size (at? (eL l (sel (fun i=>listed.getD i false) uss 0))) (vals a') w' S' β'→Step w S β w' S' β'→wpAny E.P .any ops.toArray Q fuel listed a' w':=by
  intro fuel
  induction fuel with
  | zero=>
   intro listed a' w' S' β' hsz hcf hcl e1 e2 hr hstep
   have hall:∀ i,i < ops.length→listed.getD i false=true:=fun i hi=>by
    have h1:=BW1 (l:=listed.toList) (i:=i) hcf
    have h2:i < listed.size:=by omega
    rw[AH,Aw h2] at h1
    simp only[Ah,Aw h2,AI]
    cases hb:listed[i] with
    | true=>rfl
    | false=>rw[hb] at h1;exact absurd rfl h1
   refine⟨?_,fin listed a' w' S' β' hall e1 e2 hr hstep⟩
   apply List.eq_nil_iff_forall_not_mem.2
   intro i hi
   obtain⟨o,h1,h2,_⟩:=A1f.1 hi
   have:=hall i (Am.1 h1).1
   rw[(BB6 h2).2] at this;cases this
  | succ fuel ih=>
   intro listed a' w' S' β' hsz hcf hcl e1 e2 hr hstep
   refine⟨fun hnil=>fin listed a' w' S' β' (BU8 hsz hed hnil) e1 e2 hr hstep,fun i hi=>?_⟩
   obtain⟨o,ho,hli,hedge⟩:=A1f.1 hi
   obtain⟨hilt,hLi⟩:=BB6 hli
   obtain⟨us,hus⟩:∃ us,uss[i]?=some us:=⟨_,Ab (by omega)⟩
   obtain⟨rc,hrci⟩:∃ rc,rcs[i]?=some rc:=⟨_,Ab (by omega)⟩
   obtain⟨hwi,_,hst'⟩:=hst i o us rc ho hus hrci
   have hci:∀ m,AR ((Al2 ops).getD i 0) m=true→listed.getD m false=true:=fun m hm=>by
    obtain⟨e,e1,e2,_,e4⟩:=BG8 hed ho hm
    have:=hedge e e1 e2
    rcases e4 with e4|e4
    ·rw[← e4];exact this
    ·exact hcl e.on m this e4
   have hag:∀ {x:Nat},x ∈ rc.fp∨x ∈ rc.wr→∀ (j:Nat) us,uss[j]?=some us→(∃ u ∈ us,u.slot=x)→listed.getD j false=decide (j < i):=fun {x} hx=>
    A8u (L:=fun i=>listed.getD i false) (by omega) hwr hsp hcl hci hLi hrci hx
   have hat:∀ x,x ∈ rc.fp∨x ∈ rc.wr→at? (eL l (sel (fun i=>listed.getD i false) uss 0)) x=at? (eL l (uss.take i).flatten) x:=fun x hx=>by
    by_cases hlen:x < l.length
    ·rw[bG hlen,bG hlen]
     rw[Ag9 (L:=fun i=>listed.getD i false) (M:=fun j=>decide (j < 0+i)) (fun j us hj hu=>by simp only[AF];exact hag hx j us hj hu),A4F]
    ·rw[A53 (by rw[lT];omega),A53 (by rw[lT];omega)]
   have hat':∀ x,at? (eL (eL l (sel (fun i=>listed.getD i false) uss 0)) us) x=at? (eL l (sel (fun j=>(listed.setIfInBounds i true).getD j false) uss 0)) x:=fun x=>by
    by_cases hlen:x < l.length
    ·rw[bG (by rw[lT];exact hlen),bG hlen,bG hlen]
     by_cases ht:∃ u ∈ us,u.slot=x
     ·have hx:x ∈ rc.wr:=by
       rw[hwi]
       obtain⟨u,h1,h2⟩:=ht
       exact Au.2 ⟨u,h1,h2⟩
      rw[Ag9 (L:=fun i=>listed.getD i false) (M:=fun j=>decide (j < 0+i)) (fun j us hj hu=>by simp only[AF];exact hag (.inr hx) j us hj hu),A4F,← cI,
       Ag9 (L:=fun j=>(listed.setIfInBounds i true).getD j false) (M:=fun j=>decide (j < 0+(i+1))) (fun j us' hj hu=>by
        simp only[AF]
        rw[A4f hilt,hag (.inr hx) j us' hj hu,← Bool.decide_or]
        exact decide_eq_decide.2 (by omega)),A4F,List.take_add_one,hus]
      simp
     ·rw[aG fun u hu e=>ht ⟨u,hu,e⟩]
      exact Ag9 fun j us' hj hu=>by
       simp only[AF]
       rw[A4f hilt]
       by_cases e:j=i
       ·subst e;rw[hj] at hus;cases hus;exact absurd hu ht
       ·simp[e]
    ·rw[A53 (by rw[lT,lT];omega),A53 (by rw[lT];omega)]
   have next:∀ a'' w'' S'' β'',a''.tmps.size=a.tmps.size→a''.defers=a.defers→Rel H a.tmps.size (at? (eL (eL l (sel (fun i=>listed.getD i false) uss 0)) us)) (vals a'') w'' S'' β''→Step w S β w'' S'' β'' →
     wpAny E.P .any ops.toArray Q fuel (listed.setIfInBounds i true) a'' w'':=by
    intro a'' w'' S'' β'' f1 f2 hr'' hstep''
    refine ih _ a'' w'' S'' β'' (by simpa using hsz) ?_ ?_ f1 f2 ?_ hstep''
    ·have:listed.toList[i]?=some false:=by
      rw[AH,Aw hilt]
      rw[Ah,Aw hilt] at hLi
      simpa using hLi
     have:=Bx8 this
     rw[Array.toList_setIfInBounds];omega
    ·intro j m hj hm
     rw[A4f hilt] at hj ⊢
     by_cases e:j=i
     ·subst e;simp[hci m hm]
     ·simp only[e,decide_false,Bw] at hj
      simp[hcl j m hj hm]
    ·rw[← funext hat'];exact hr''
   have hoin:=hin o (AK ho)
   have hlc:(eL l (sel (fun i=>listed.getD i false) uss 0)).length=a'.tmps.size:=by rw[lT,hl,e1]
   unfold wpOp
   simp only[AG,ho]
   rcases hst' with ⟨hop,gs,hg,hfc⟩| ⟨j,want,g,h1,h2,h3,h4,h5⟩
   ·have hgs:∀ x,x ∈ gs→x ∈ rc.fp:=by
     rcases hfc with h|⟨h,_⟩
     ·intro x hx;rw[h];exact A7 _ hx
     ·intro x hx;rw[h];exact hx
    have hwant:AA o (yielded ops.toArray a'.tmps)=true:=by
     rcases hg with ⟨h,_⟩| ⟨j,want,g,h1,h2,h3,h4⟩
     ·simp[AA,h]
     ·have:=Ae0 hr h2 (t:=want) (by rw[hat g (.inl (hgs g (by rw[h3];simp)))];exact h4)
      simp[AA,h1,this]
    rw[Ak hwant]
    left
    have hop:opK E R (mv.any (Ap i ·)) (nK (eL l (sel (fun i=>listed.getD i false) uss 0)) (A3v o (eL l (uss.take i).flatten))) o some=some us:=by
     rcases hfc with h|⟨h,x,s,hm,hs,hsf⟩
     ·rw[BH0 fun x hx=>hat x (.inl (by rw[h];exact A5 _ hx))];exact hop
     ·have hmem:=B0q hm hs
      have hbads:∀ j us,uss[j]?=some us→s ∉ Ac5 (eL l (uss.take j).flatten) us:=fun j us' hj hbad=>by
       have hjl:j < ops.length:=by have:=(Am.1 hj).1;omega
       obtain⟨q,hq⟩:∃ q,rcs[j]?=some q:=⟨_,Ab (by omega)⟩
       have hb2:=(hst j ops[j] us' q (Ab hjl) hj hq).2.1 s hbad
       unfold Bj9 at hnb
       rw[Am5.2 ⟨s,Bo.2 ⟨rc,AK hrci,by rw[hsf];simp⟩,Bo.2 ⟨q,AK hq,hb2⟩⟩] at hnb
       cases hnb
      have hps:∃ t,A25 (at? (eL l (uss.take i).flatten) s).sv=some t:=by
       unfold Ag6 at hs
       split at hs
       ·split at hs
        ·rename_i hc
         cases hs
         simp only[Ac] at hc
         exact Option.isSome_iff_exists.1 hc.2
        ·cases hs
       ·cases hs
      obtain⟨t,ht⟩:=hps
      have hlen:s < l.length:=by
       rcases AN s l.length with h|h
       ·exact h
       ·rw[A53 (by rw[lT];exact h)] at ht;cases ht
      have hpi:PO t (at? (eL l (uss.take i).flatten) s).s (at? (eL l (uss.take i).flatten) s):=⟨ht,rfl⟩
      have hp0:=A6t hlen hbads hpi
      refine B0V hm hs hop hmem hmem (t:=t) ?_
      have hfin:=BA4 (L:=fun i=>listed.getD i false) (kk:=0) hlen hbads hp0 _ hp0
      rw[← bG hlen] at hfin
      exact hfin
    refine BU1 hR hlc (by rw[e1];exact hr) (by rw[e1];exact hoin) hop fun us' a'' w'' S'' β'' g0 g1 g2 g3 g4=>?_
    cases g0
    exact next a'' w'' S'' β'' (g1.trans e1) (g2.trans e2) (by rw[← e1];exact g3) (hstep.trans g4)
   ·have hv:=hat g (.inl (by rw[h3];simp))
    have hwant:AA o (yielded ops.toArray a'.tmps)=false:=by
     rcases h4 with h4|h4
     ·have:=A02 hr h2 (by rw[hv];exact h4)
      simp[AA,h1,this]
     ·have:=Ae0 hr h2 (t:=!want) (by rw[hv];exact h4)
      simp[AA,h1,this]
    rw[Ao (by rw[hwant];simp)]
    cases hd:o.dst with
    | some d=>
     rw[hd] at h5
     simp only at h5
     subst h5
     have hdN:=wP hoin hd
     refine next _ _ _ _ (uD.trans e1) (xL.trans e2) ?_ hstep
     have:=(show Rel H a'.tmps.size _ (vals a') w' S' β' by rw[e1];exact hr).unset hlc (d:=d) (by omega)
     rw[e1] at this;exact this
    | none=>
     rw[hd] at h5
     simp only at h5
     subst h5
     exact next _ _ _ _ e1 e2 hr hstep
 refine key _ _ a _ S β (by simp) ?_ ?_ rfl rfl ?_ hs1
 ·have:∀ n,cf (List.replicate n false)=n:=by
   intro n
   induction n with
   | zero=>rfl
   | succ n ih=>simp only[List.replicate_succ,cf,ih];simp;omega
  rw[Array.toList_replicate];exact this _
 ·intro i m hi
  exfalso
  simp[Ah,AT] at hi
  split at hi<;>simp at hi
 ·have:∀ (uss:List (List Up)) (k:Nat),sel (fun i=>(AM ops.toArray.size false).getD i false) uss k=[]:=by
   intro uss
   induction uss with
   | nil=>intro k;rfl
   | cons us r ih=>
    intro k
    simp only[sel,ih (k+1),Bt]
    rw[Ao]
    simp[Ah,AT]
    split<;>simp
  rw[this];exact hw1
end
end Go.Rf

end
section
namespace Go.Rf
set_option linter.unusedSectionVars false
variable [T:Laid]
def noH:Nat→Option (List Value):=fun _=>none
theorem A27:∀ {f:Fl},f.nopin=true→f.pins=[]
 | .pin _ _,h=>by simp[Fl.nopin] at h
 | .sh,_|.gone,_|.own _,_|.pr _ _,_|.ar _,_=>rfl
theorem AF8:∀ {f:Fl},f.nopin=true→f.base=f
 | .pin _ _,h=>by simp[Fl.nopin] at h
 | .sh,_|.gone,_|.own _,_|.pr _ _,_|.ar _,_=>rfl
theorem A7V:∀ {f:Fl},f.nopin=true→f.l.nopin=true
 | .pin _ _,h=>by simp[Fl.nopin] at h
 | .pr _ _,h=>by simp only[Fl.nopin,Ac] at h;exact h.1
 | .sh,_|.gone,_|.own _,_|.ar _,_=>rfl
theorem Ba6:∀ {f:Fl},f.nopin=true→f.r.nopin=true
 | .pin _ _,h=>by simp[Fl.nopin] at h
 | .pr _ _,h=>by simp only[Fl.nopin,Ac] at h;exact h.2
 | .sh,_|.gone,_|.own _,_|.ar _,_=>rfl
section
variable {S S':Nat→Prop} {β:Key→Option Nat} {H H':Nat→Option (List Value)} {w w':World}
theorem jT {f:Fl} {c:List Value} (hf:f.nopin=true):lV H f c:=fun k hk=>by rw[A27 hf] at hk;cases hk
theorem AD3:∀ {t:Ty} {k:Key} {f:Fl} {x:t.D} {c:List Value},f.nopin=true→zX S β H w k t f x c→zX S β H' w k t f x c
 | .int _,_,_,_,_,hf,h=>by simp only[zX] at h ⊢;exact⟨jT hf,h.2⟩
 | .bool,_,_,_,_,hf,h=>by simp only[zX] at h ⊢;exact⟨jT hf,h.2⟩
 | .str,_,_,_,_,hf,h=>by simp only[zX] at h ⊢;exact⟨jT hf,h.2⟩
 | .fn,_,_,_,_,hf,h=>by simp only[zX] at h ⊢;exact⟨jT hf,h.2⟩
 | .unit,_,_,_,_,hf,h=>by simp only[zX] at h ⊢;exact⟨jT hf,h.2⟩
 | .sl _,k,f,x,c,hf,h=>by
  simp only[zX] at h ⊢
  refine⟨jT hf,?_⟩
  have h:=h.2
  rw[AF8 hf] at h ⊢
  cases f with
  | own e=>
   obtain⟨ad,cap,e1,e2,h⟩:=h
   refine⟨ad,cap,e1,e2,h.imp id ?_⟩
   rintro⟨b,o,cs,q1,q2,q3,q4,q5⟩
   exact⟨b,o,cs,q1,q2,q3,q4,fun i y hy=>AD3 hf (q5 i y hy)⟩
  | _=>exact h
 | .ptr _,k,f,x,c,hf,h=>by
  simp only[zX] at h ⊢
  refine⟨jT hf,?_⟩
  have h:=h.2
  rw[AF8 hf] at h ⊢
  cases f with
  | own e=>
   obtain⟨b,cs,q1,q2,q3,q4,q5⟩:=h
   exact⟨b,cs,q1,q2,q3,q4,AD3 hf q5⟩
  | _=>exact h
 | .arr _ _,k,f,x,c,hf,h=>by
  simp only[zX] at h ⊢
  refine⟨jT hf,?_⟩
  have h:=h.2
  rw[AF8 hf] at h ⊢
  cases f with
  | ar e=>exact⟨h.1,h.2.1,fun i y hy=>AD3 hf (h.2.2 i y hy)⟩
  | _=>exact h
 | .pair _ _,k,f,x,c,hf,h=>by
  simp only[zX] at h ⊢
  refine⟨jT hf,?_⟩
  have h:=h.2
  rw[AF8 hf] at h ⊢
  cases f with
  | pr e1 e2=>
   simp only[Fl.nopin,Ac] at hf
   exact⟨AD3 hf.1 h.1,AD3 hf.2 h.2⟩
  | _=>exact h
theorem AA1:∀ {t:Ty},oB t .sh=true→A3l t=true
 | .int _,_|.bool,_|.str,_|.unit,_=>rfl
 | .arr _ t,h=>by simp only[oB,Fl.a] at h;simp only[A3l];exact AA1 h
 | .pair a b,h=>by
  simp only[oB,Fl.l,Fl.r,Ac] at h
  simp only[A3l,Ac];exact⟨AA1 h.1,AA1 h.2⟩
 | .fn,h|.sl _,h|.ptr _,h=>by simp[oB] at h
theorem mU:∀ {t:Ty},oB t .gone=true→A3l t=true
 | .int _,_|.bool,_|.str,_|.unit,_=>rfl
 | .arr _ t,h=>by simp only[oB,Fl.a] at h;simp only[A3l];exact mU h
 | .pair a b,h=>by
  simp only[oB,Fl.l,Fl.r,Ac] at h
  simp only[A3l,Ac];exact⟨mU h.1,mU h.2⟩
 | .fn,h|.sl _,h|.ptr _,h=>by simp[oB] at h
theorem jB:∀ {t:Ty} {f:Fl} {k:Key} {x:t.D} {c:List Value},oB t f=true→zX S β H w k t f x c→zX S' β H w k t f x c
 | .int _,f,_,_,_,_,h|.bool,f,_,_,_,_,h|.str,f,_,_,_,_,h|.unit,f,_,_,_,_,h=>by
  simp only[zX] at h ⊢
  refine⟨h.1,?_⟩
  have h:=h.2
  cases hf:f.base<;>rw[hf] at h<;>first|exact h|(simpa only[Rd] using h)
 | .fn,_,_,_,_,hc,_=>by simp[oB] at hc
 | .sl t,f,_,_,_,hc,h=>by
  cases f with
  | own e=>
   simp only[oB] at hc
   simp only[zX,Fl.base] at h ⊢
   obtain⟨h0,ad,cap,e1,e2,h⟩:=h
   refine⟨h0,ad,cap,e1,e2,h.imp id ?_⟩
   rintro⟨b,o,cs,q1,q2,q3,q4,q5⟩
   exact⟨b,o,cs,q1,q2,q3,q4,fun i y hy=>jB hc (q5 i y hy)⟩
  | _=>simp[oB] at hc
 | .ptr t,f,_,_,_,hc,h=>by
  cases f with
  | own e=>
   simp only[oB] at hc
   simp only[zX,Fl.base] at h ⊢
   obtain⟨h0,b,cs,q1,q2,q3,q4,q5⟩:=h
   exact⟨h0,b,cs,q1,q2,q3,q4,jB hc q5⟩
  | _=>simp[oB] at hc
 | .arr n t,f,_,x,c,hc,h=>by
  simp only[oB] at hc
  rw[AN8] at hc
  simp only[zX] at h ⊢
  refine⟨h.1,?_⟩
  have h:=h.2
  have rd:A3l t=true→Rd S w (.arr n t) x c→Rd S' w (.arr n t) x c:=fun hs=>AI8 (t:=.arr n t) hs
  cases hf:f.base with
  | ar e=>
   rw[hf] at h hc
   exact⟨h.1,h.2.1,fun i y hy=>jB hc (h.2.2 i y hy)⟩
  | gone=>rw[hf] at h;exact h
  | sh=>rw[hf] at h hc;exact rd (AA1 hc) h
  | own e=>rw[hf] at h hc;exact rd (mU hc) h
  | pr e1 e2=>rw[hf] at h hc;exact rd (mU hc) h
  | pin k e=>exact absurd hf zY
 | .pair a b,f,_,x,c,hc,h=>by
  simp only[oB,Ac] at hc
  rw[AB1,AD6] at hc
  simp only[zX] at h ⊢
  refine⟨h.1,?_⟩
  have h:=h.2
  have rd:A3l a=true∧A3l b=true→Rd S w (.pair a b) x c→Rd S' w (.pair a b) x c:=fun hs=>AI8 (t:=.pair a b) (by simp[A3l,hs.1,hs.2])
  cases hf:f.base with
  | pr e1 e2=>
   rw[hf] at h hc
   exact⟨jB hc.1 h.1,jB hc.2 h.2⟩
  | gone=>rw[hf] at h;exact h
  | sh=>rw[hf] at h hc;exact rd ⟨AA1 hc.1,AA1 hc.2⟩ h
  | own e=>rw[hf] at h hc;exact rd ⟨mU hc.1,mU hc.2⟩ h
  | ar e=>rw[hf] at h hc;exact rd ⟨mU hc.1,mU hc.2⟩ h
  | pin k e=>exact absurd hf zY
end
def Ap1 (P:Program) (f:FuncId) (args:Array Value) (w:World) (R:Value→World→Prop):Prop:=
 (∃ fn,P.funcs[f]?=some fn∧(fn.name == "runtime.NumGoroutine")=false∧fn.body.isNone=false∧Calls P f args w fun|.returned v,w'=>R v w'|_,_=>False) ∨
 ∃ v w',(callFunc f args).run P w=.ok (.value v) w'∧R v w'
theorem Ap1.mono {P:Program} {f:FuncId} {args:Array Value} {w:World} {R R':Value→World→Prop} (h:Ap1 P f args w R) (hr:∀ v w',R v w'→R' v w'):Ap1 P f args w R':=by
 rcases h with ⟨fn,h1,h2,h3,h4⟩| ⟨v,w',h1,h2⟩
 ·exact .inl ⟨fn,h1,h2,h3,h4.mono fun e w' he=>by cases e<;>first|exact hr _ _ he|exact he⟩
 ·exact .inr ⟨v,w',h1,hr _ _ h2⟩
section
variable (S:Nat→Prop) (β:Key→Option Nat) (w:World)
def tM:List Mode→List Dyn→List (List Value)→Nat→Prop
 | [],[],[],_=>True
 | .ro t :: ms,d :: ds,c :: cs,i=>d.t=t∧Rd S w d.t d.x c∧tM ms ds cs (i+1)
 | .mv t f :: ms,d :: ds,c :: cs,i=>d.t=t∧f.nopin=true∧zX S β noH w [i] d.t f d.x c∧tM ms ds cs (i+1)
 | .io t f fo _ _ :: ms,d :: ds,c :: cs,i=>d.t=t∧(f.nopin=true∧fo.nopin=true)∧zX S β noH w [i] d.t f d.x c∧tM ms ds cs (i+1)
 | _,_,_,_=>False
def yP:List Dyn→List (List Value)→List Value
 | d :: ds,c :: cs=>yK d.t c :: yP ds cs
 | _,_=>[]
def AP9:List Mode→List (List Value)→Nat→(t:Ty)→t.D→Prop
 | [],[],_,_,_=>True
 | .io t _ fo _ _ :: ms,c :: cs,i,.pair a b,x=>a=t∧zX S β noH w [2 * i+1] a fo x.1 c∧AP9 ms cs (i+1) b x.2
 | .ro _ :: ms,_ :: cs,i,t,x=>AP9 ms cs (i+1) t x
 | .mv _ _ :: ms,_ :: cs,i,t,x=>AP9 ms cs (i+1) t x
 | _,_,_,_,_=>False
def mQ:Nat→Nat→(t:Ty)→Fl→t.D→List (List Value)→Prop
 | 0,_,_,_,_,[]=>True
 | n+1,k,.pair a b,f,x,c :: cs=>zX S β noH w [2 * k] a f.l x.1 c∧mQ n (k+1) b f.r x.2 cs
 | _,_,_,_,_,_=>False
end
def iH:Nat→Ty→List (List Value)→List Value
 | n+1,.pair a b,c :: cs=>yK a c :: iH n b cs
 | _,_,_=>[]
def At6:List Value→Value
 | [v]=>v
 | vs=>.tuple vs.toArray
def Ret (c:FCfg) (x:c.rt.D) (cs:List (List Value)) (w:World) (S:Nat→Prop) (β:Key→Option Nat) (v:Value) (w':World):Prop:=
 ∃ S' β' crs,Sane w' S' β'∧Step w S β w' S' β'∧mQ S' β' w' c.nres 0 c.rt c.rf x crs∧v=At6 (iH c.nres c.rt crs)∧AP9 S' β' w' c.modes cs 0 (A5h c.nres c.rt) (Bp5 c.nres c.rt x)
def Bw3 (E:Env) (f:FuncId) (ds:List Dyn) (x:(E.cfg f).rt.D):Prop:=
 ∀ (w:World) (S:Nat→Prop) (β:Key→Option Nat) (cs:List (List Value)),Sane w S β→tM S β w (E.cfg f).modes ds cs 0 →
  Ap1 E.P f (yP ds cs).toArray w (Ret (E.cfg f) x cs w S β)
def A2U (E:Env) (R:Run E):Prop:=∀ f ds x,R f ds=some x→Bw3 E f ds x
end Go.Rf

end
section
namespace Go.Rf
set_option linter.unusedSectionVars false
variable [T:Laid]
section
variable {P:Program} {H:Nat→Option (List Value)} {N:Nat} {g g' G σ:yL} {V V' V0:Nat→Option Value} {w w':World} {S S':Nat→Prop} {β β':Key→Option Nat} {a:Act} {o:Oper}
variable {E:Env} {gv:yL} {us:List Up}
structure HeldIo (N:Nat) (w:World) (G:yL) (V V0:Nat→Option Value) (x:Operand) (t:Ty) (f fo:Fl) (d:Dyn) (o:Io) (k:Nat):Prop where
 np:f.nopin=true∧fo.nopin=true
 at_:∃ d0:Dat,xQ o.p o.e.t o.e.f o.e.x=some d0∧d0.t=t∧d0.f.base=f∧d=⟨d0.t,d0.x⟩ ∧
  ∀ cr L c,V0 o.r=some (yK o.e.t cr)→cr.length=o.e.t.size→tJ w o.e.t (.reg cr) o.p=some (d0.t,L)→zG w d0.t.size L=some c→evl V0 x=some (yK d0.t c)
 ne:f.base≠.gone
 inb:inB o.p o.e.t o.e.x
 sv:(G (N+k)).sv=.dat o.e
 lt:o.r < N
 val:V (N+k)=V0 o.r
def eC (N:Nat) (w:World) (G:yL) (V V0:Nat→Option Value):List Mode→List Operand→List (Option Dyn)→List Io→Nat→Prop
 | [],[],[],[],_=>True
 | .ro _ :: ms,_ :: xs,none :: hs,rs,k=>eC N w G V V0 ms xs hs rs (k+1)
 | .mv t f :: ms,x :: xs,some d :: hs,rs,k=>d.t=t∧f.nopin=true∧(G (N+k)).sv=.dat ⟨d.t,d.x,f⟩∧V (N+k)=evl V0 x∧eC N w G V V0 ms xs hs rs (k+1)
 | .io t f fo _ _ :: ms,x :: xs,some d :: hs,o :: rs,k=>HeldIo N w G V V0 x t f fo d o k∧eC N w G V V0 ms xs hs rs (k+1)
 | _,_,_,_,_=>False
theorem Bq6 {i:Nat} {u:Up} (h:g i=g' i):(g.up u) i=(g'.up u) i:=by
 by_cases e:i=u.slot
 ·subst e;rw[jC,jC,h]
 ·rw[oQ e,oQ e,h]
theorem A6I {i:Nat}:∀ {us:List Up} {g g':yL},g i=g' i→(g.ups us) i=(g'.ups us) i
 | [],_,_,h=>h
 | u :: us,_,_,h=>by simp only[yL.ups];exact A6I (Bq6 h)
theorem A7G {i:Nat}:∀ {us:List Up} {g:yL},(∀ u ∈ us,u.slot≠i)→(g.ups us) i=g i
 | [],_,_=>rfl
 | u :: us,g,h=>by
  simp only[yL.ups]
  rw[A7G fun v hv=>h v (by simp[hv]),oQ (fun e=>h u (by simp) e.symm)]
theorem Sub.hand {n:Nat} {d:Dat} (h:Sub g G) (hn:(g n).sv=.dead):Sub g (upN G n d):=fun i=>by
 by_cases e:i=n
 ·subst e;exact .inl hn
 ·exact (h i).imp id fun h=>by rw[cX e];exact h
theorem Sub.rfl':Sub g g:=fun _=>.inr rfl
theorem Rel.weakenHand {r:Nat} {e:Dat} {f:Fl} (h:Rel H N g V w S β) (he:(g r).sv=.dat e) (hf:Fl.le f e.f=true):
  Rel H N (upN g r ⟨e.t,e.x,f⟩) V w (B1c S β r e.t f) (BG0 β r e.t f):=by
 refine Rel.put h (h.sane.pub r e.t f) (fun b hb=>⟨.inl hb,rfl⟩) (fun j s b hj _ hb=>⟨by simp[BG0,hj,hb],rfl⟩) (fun _ _=>rfl) ?_
 obtain⟨c,hv,hV⟩:=h.dat he
 refine⟨c,?_,hV⟩
 refine AR2 (fun b hb=>⟨.inl hb,rfl⟩) hf (fun s b hb=>⟨rfl,fun ho=>?_,fun ho=>.inr ⟨s,hb,ho⟩⟩) hv
 simp only[Aj,AY] at hb ⊢
 simp[BG0,ho,hb]
theorem AY4:∀ {p q:List PS} {t:Ty} {x:t.D},inB (p++q) t x→inB p t x
 | [],_,_,_,_=>by simp[inB]
 | .fst :: p,q,.pair _ _,x,h=>by simp only[Aj,inB] at h ⊢;exact AY4 (p:=p) h
 | .snd :: p,q,.pair _ _,x,h=>by simp only[Aj,inB] at h ⊢;exact AY4 (p:=p) h
 | .der :: p,q,.ptr _,x,h=>by simp only[Aj,inB] at h ⊢;exact AY4 (p:=p) h
 | .idx i :: p,q,.arr _ _,x,h=>by simp only[Aj,inB] at h ⊢;exact⟨h.1,AY4 (p:=p) h.2⟩
 | .elm i :: p,q,.sl _,x,h=>by simp only[Aj,inB] at h ⊢;exact⟨h.1,AY4 (p:=p) h.2⟩
 | .fst :: p,q,.int _,_,h|.fst :: p,q,.bool,_,h|.fst :: p,q,.str,_,h|.fst :: p,q,.fn,_,h|.fst :: p,q,.unit,_,h|.fst :: p,q,.sl _,_,h|.fst :: p,q,.ptr _,_,h|.fst :: p,q,.arr _ _,_,h=>by simp[inB] at h
 | .snd :: p,q,.int _,_,h|.snd :: p,q,.bool,_,h|.snd :: p,q,.str,_,h|.snd :: p,q,.fn,_,h|.snd :: p,q,.unit,_,h|.snd :: p,q,.sl _,_,h|.snd :: p,q,.ptr _,_,h|.snd :: p,q,.arr _ _,_,h=>by simp[inB] at h
 | .der :: p,q,.int _,_,h|.der :: p,q,.bool,_,h|.der :: p,q,.str,_,h|.der :: p,q,.fn,_,h|.der :: p,q,.unit,_,h|.der :: p,q,.sl _,_,h|.der :: p,q,.pair _ _,_,h|.der :: p,q,.arr _ _,_,h=>by simp[inB] at h
 | .idx _ :: p,q,.int _,_,h|.idx _ :: p,q,.bool,_,h|.idx _ :: p,q,.str,_,h|.idx _ :: p,q,.fn,_,h|.idx _ :: p,q,.unit,_,h|.idx _ :: p,q,.sl _,_,h|.idx _ :: p,q,.pair _ _,_,h|.idx _ :: p,q,.ptr _,_,h=>by simp[inB] at h
 | .elm _ :: p,q,.int _,_,h|.elm _ :: p,q,.bool,_,h|.elm _ :: p,q,.str,_,h|.elm _ :: p,q,.fn,_,h|.elm _ :: p,q,.unit,_,h|.elm _ :: p,q,.arr _ _,_,h|.elm _ :: p,q,.pair _ _,_,h|.elm _ :: p,q,.ptr _,_,h=>by simp[inB] at h
theorem Bl9 {x:Operand} {q:Pl} {e d:Dat} (h:Rel H N g V w S β) (hr:BO1 g x (sv g x)=some q) (he:(g q.1).sv=.dat e) (hg:xQ q.2 e.t e.f e.x=some d):
  inB q.2 e.t e.x∧∀ cr L c,V q.1=some (yK e.t cr)→cr.length=e.t.size→tJ w e.t (.reg cr) q.2=some (d.t,L)→zG w d.t.size L=some c→evl V x=some (yK d.t c):=by
 cases hx:sv g x with
 | dat e'=>
  rw[hx] at hr
  simp only[BO1] at hr
  split at hr
  ·simp only[Aa] at hr;subst hr
   simp only[xQ,Aa] at hg;subst hg
   refine⟨by simp[inB],fun cr L c h1 h2 h3 h4=>?_⟩
   simp only[tJ,Aa,Ar,true_and] at h3
   subst h3
   obtain⟨rfl,_⟩:=A1C h4
   exact h1
  ·cases hr
 | als r' p c' s=>
  rw[hx] at hr
  obtain⟨i,rfl,hi⟩:=rD hx (by simp) (by simp) (by simp)
  simp only[BO1] at hr
  split at hr
  ·rename_i hok
   simp only[Aa] at hr;subst hr
   obtain⟨_,hb,_,cr,L,c2,k1,k2,k3,k4,k5,k6,k7⟩:=h.als hi hok he hg
   refine⟨hb,fun cr' L' c h1 h2 h3 h4=>?_⟩
   have:=rH (Av (k1.symm.trans h1)) k2 h2
   subst this
   rw[k4] at h3
   simp only[Aa,Ar,true_and] at h3
   subst h3
   rw[k5] at h4
   simp only[Aa] at h4
   subst h4
   exact k7
  ·cases hr
 | adr r' p c' s=>
  rw[hx] at hr
  obtain⟨i,rfl,hi⟩:=rD hx (by simp) (by simp) (by simp)
  simp only[BO1] at hr
  split at hr
  ·rename_i hok
   split at hr
   ·rename_i q' hrev
    simp only[Aa] at hr;subst hr
    have hp:p=q'.reverse++[.der]:=by have:=congrArg List.reverse hrev;simpa using this
    subst hp
    have hs:=h.slots i
    rw[hi] at hs
    obtain⟨_,_,_,hs⟩:=hs
    obtain⟨cr,t,b,o,k1,k2,k3,k4,k5,_⟩:=hs hok e he
    refine⟨AY4 k5,fun cr' L c h1 h2 h3 h4=>?_⟩
    have:=rH (Av (k1.symm.trans h1)) k2 h2
    subst this
    rw[eK h3] at k3
    simp only[evl]
    rw[k4]
    obtain⟨dt,dx,df⟩:=d
    cases dt with
    | ptr τ=>
     simp only[Ty.size] at h4
     simp only[tJ,wX,h4] at k3
     split at k3
     ·rename_i t' L' he'
      simp only[Aa,Ar] at k3
      obtain⟨rfl,rfl⟩:=k3
      split at he'
      ·rename_i b' hq
       simp only[Aa,Ar,Loc.mem.injEq] at he' hq
       obtain⟨_,rfl,rfl⟩:=he'
       subst hq
       rfl
      ·cases he'
     ·cases k3
    | _=>simp[tJ,wX] at k3
   ·cases hr
  ·cases hr
 | _=>rw[hx] at hr;simp[BO1] at hr
theorem B0u {x:Operand} {q:Pl} (hs:Sub g G) (h:BO1 g x (sv g x)=some q) (hd:(g q.1).sv≠.dead):BO1 G x (sv G x)=some q:=by
 cases hx:sv g x with
 | dat e=>rw[hs.sv hx (by simp)];rw[hx] at h;exact h
 | als r' p c s=>
  rw[hs.sv hx (by simp)];rw[hx] at h
  simp only[BO1] at h ⊢
  split at h
  ·rename_i hok
   simp only[Aa] at h;subst h
   rw[Sub.okA (hs.get rfl hd),hok];rfl
  ·cases h
 | adr r' p c s=>
  rw[hs.sv hx (by simp)];rw[hx] at h
  simp only[BO1] at h ⊢
  split at h
  ·rename_i hok
   split at h
   ·rename_i q' hrev
    simp only[Aa] at h;subst h
    rw[Sub.okB (hs.get rfl hd),hok];rfl
   ·cases h
  ·cases h
 | _=>rw[hx] at h;simp[BO1] at h
theorem A8b {x:Operand} (hD:yW N g) (hx:sv g x≠.dead) (hV:∀ i,i < N→V i=V' i):evl V x=evl V' x:=by
 cases x with
 | tmp s=>exact hV s (hD.lt hx)
 | _=>rfl
theorem Aj1 {share:Bool}:∀ {ms:List Mode} {xs:List Operand} {g:yL} {p:Prep} {k:Nat} {V:Nat→Option Value} {G:yL} {S:Nat→Prop} {β:Key→Option Nat},
  Rel H N G V w S β→Sub g G→yW N g→(∀ i,N+k≤i→(G i).sv=.dead)→(∀ i,i < N→V i=V0 i)→Af2 share ms xs g=some p →
  ∃ G' V' S' β',Rel H N G' V' w S' β'∧Step w S β w S' β'∧Sub p.g G'∧yW N p.g∧(∀ i,i < N→G' i=(G.ups p.ups) i)∧(∀ i,i < N+k→V' i=V i) ∧
   (∀ i,N≤i→i < N+k→G' i=G i)∧eC N w G' V' V0 ms xs p.hands p.ios k∧∀ u ∈ p.ups,u.slot < N
 | [],[],g,p,k,V,G,S,β,h,hs,hD,hd,hV,hp=>by
  simp only[Af2,Aa] at hp;subst hp
  exact⟨G,V,S,β,h,.refl,hs,hD,fun _ _=>rfl,fun _ _=>rfl,fun _ _ _=>rfl,by simp[eC],by simp⟩
 | [],_ :: _,_,_,_,_,_,_,_,_,_,_,_,_,hp=>by simp[Af2] at hp
 | _ :: _,[],_,_,_,_,_,_,_,_,_,_,_,_,hp=>by simp[Af2] at hp
 | m :: ms,x :: xs,g,p,k,V,G,S,β,h,hs,hD,hd,hV,hp=>by
  simp only[Af2] at hp
  split at hp
  ·rename_i hnd us rs ho
   obtain⟨p',hp',rfl⟩:=Ad.1 hp
   have go:∀ (G1:yL) (V1:Nat→Option Value) (S1:Nat→Prop) (β1:Key→Option Nat),Rel H N G1 V1 w S1 β1→Step w S β w S1 β1→Sub (g.ups us) G1→(∀ u ∈ us,u.slot < N) →
     (∀ i,i≠N+k→G1 i=(G.ups us) i)→(∀ i,i≠N+k→V1 i=V i) →
     (∀ (G':yL) (V':Nat→Option Value),G' (N+k)=G1 (N+k)→V' (N+k)=V1 (N+k)→eC N w G' V' V0 ms xs p'.hands p'.ios (k+1)→eC N w G' V' V0 (m :: ms) (x :: xs) (hnd :: p'.hands) (rs++p'.ios) k) →
     ∃ G' V' S' β',Rel H N G' V' w S' β'∧Step w S β w S' β'∧Sub p'.g G'∧yW N p'.g∧(∀ i,i < N→G' i=(G.ups (us++p'.ups)) i)∧(∀ i,i < N+k→V' i=V i) ∧
      (∀ i,N≤i→i < N+k→G' i=G i)∧eC N w G' V' V0 (m :: ms) (x :: xs) (hnd :: p'.hands) (rs++p'.ios) k∧∀ u ∈ us++p'.ups,u.slot < N:=by
    intro G1 V1 S1 β1 h1 hst hs1 hlt hG hV1 hhd
    have hfar:∀ i,N≤i→(G.ups us) i=G i:=fun i hi=>A7G fun u hu e=>by have:=hlt u hu;omega
    obtain⟨G',V',S',β',r1,r2,r3,r4,r5,r6,r7,r8,r9⟩:=Aj1 (k:=k+1) h1 hs1 (hD.ups hlt) (fun i hi=>by rw[hG i (by omega),hfar i (by omega)];exact hd i (by omega))
     (fun i hi=>by rw[hV1 i (by omega)];exact hV i hi) hp'
    refine⟨G',V',S',β',r1,hst.trans r2,r3,r4,fun i hi=>?_,fun i hi=>?_,fun i h1 h2=>?_,hhd G' V' (r7 _ (by omega) (by omega)) (r6 _ (by omega)) r8,fun u hu=>?_⟩
    ·rw[r5 i hi,xS];exact A6I (hG i (by omega))
    ·rw[r6 i (by omega),hV1 i (by omega)]
    ·rw[r7 i h1 (by omega),hG i (by omega),hfar i h1]
    ·rcases A1.1 hu with hu|hu
     ·exact hlt u hu
     ·exact r9 u hu
   have hgn:(g (N+k)).sv=.dead:=hD _ (by omega)
   have hGn:(G (N+k)).sv=.dead:=hd _ (Al _)
   cases m with
   | ro t=>
    simp only[A9h] at ho
    have plain:(none,[],[])=(hnd,us,rs)→∃ G' V' S' β',Rel H N G' V' w S' β'∧Step w S β w S' β'∧Sub p'.g G'∧yW N p'.g∧(∀ i,i < N→G' i=(G.ups (us++p'.ups)) i)∧(∀ i,i < N+k→V' i=V i) ∧
      (∀ i,N≤i→i < N+k→G' i=G i)∧eC N w G' V' V0 (.ro t :: ms) (x :: xs) (hnd :: p'.hands) (rs++p'.ios) k∧∀ u ∈ us++p'.ups,u.slot < N:=fun e=>by
     simp only[Ar] at e
     obtain⟨rfl,rfl,rfl⟩:=e
     exact go G V S β h .refl hs (by simp) (fun _ _=>rfl) (fun _ _=>rfl) (fun G' V' _ _ hh=>hh)
    split at ho
    ·split at ho
     ·simp only[Aa] at ho;exact plain ho
     ·split at ho
      ·rename_i d hdat
       obtain⟨us',hpub,e⟩:=Ad.1 ho
       simp only[Ar] at e
       obtain⟨rfl,rfl,rfl⟩:=e
       obtain⟨hpub',hsub',_⟩:=AB2 hs hpub
       obtain⟨_,_,halive⟩:=AB2 Sub.rfl' hpub
       obtain⟨S1,β1,c,q1,q2,_,_⟩:=AM7 h hpub' (rL hs hdat)
       exact go _ V S1 β1 q1 q2 hsub' (fun u hu=>hD.lt (halive u hu)) (fun _ _=>rfl) (fun _ _=>rfl) (fun G' V' _ _ hh=>hh)
      ·cases ho
    ·simp only[Aa] at ho;exact plain ho
   | mv t f=>
    simp only[A9h] at ho
    split at ho
    ·rename_i d us' ht
     split at ho
     ·rename_i hc
      simp only[Aa,Ar] at ho
      obtain⟨rfl,rfl,rfl⟩:=ho
      simp only[Ac,A6] at hc
      obtain⟨⟨hdt,hle⟩,hnp⟩:=hc
      obtain⟨ht',hsub'⟩:=AF5 hs ht
      have hlt:∀ u ∈ us',u.slot < N:=fun u hu=>hD.lt (aC ht u hu)
      obtain⟨S1,β1,c,q1,q2,q3,q4⟩:=bX (n:=N+k) h ht' hGn (by omega)
      have q5:=q1.weakenHand bM hle
      have hdn:((g.ups us') (N+k)).sv=.dead:=hD.ups hlt _ (by omega)
      refine go _ _ _ _ q5 (q2.trans (.pub _ _ _)) ((hsub'.hand hdn).hand hdn) hlt (fun i hi=>by rw[cX hi,cX hi]) (fun i hi=>by simp[upd,hi]) ?_
      intro G' V' e1 e2 hh
      refine⟨hdt,hnp,by rw[e1];exact bM,?_,hh⟩
      rw[e2,← A8b hD (fun e=>by rw[e] at ht;simp[take] at ht) hV,q3];simp[upd]
     ·cases ho
    ·cases ho
   | io t f fo sl pa=>
    simp only[A9h] at ho
    split at ho
    ·rename_i q hr
     split at ho
     ·rename_i e hdat
      split at ho
      ·rename_i d hg
       split at ho
       ·rename_i hc
        simp only[Aa,Ar] at ho
        obtain⟨rfl,rfl,rfl⟩:=ho
        simp only[Ac,A6,Aq] at hc
        obtain⟨⟨⟨⟨hdt,hfb⟩,hnp⟩,hnp'⟩,hng⟩:=hc
        have hnb:f.base≠.gone:=rN hng
        have hGr:G q.1=g q.1:=hs.get rfl (by rw[hdat];simp)
        have hGd:(G q.1).sv=.dat e:=by rw[hGr];exact hdat
        have hrN:q.1 < N:=hD.lt (i:=q.1) (by rw[hdat];simp)
        have hrn:N+k≠q.1:=by omega
        obtain⟨hinb,hval⟩:=Bl9 h (B0u hs hr (by rw[hdat];simp)) hGd hg
        obtain⟨c,hvr,hVr⟩:=h.dat hGd
        have q1:Rel H N (G.up (.put q.1 .dead)) V w S β:=h.kill fun _ _=>rfl
        have hd1:((G.up (.put q.1 .dead)) q.1).sv=.dead:=by rw[show G.up (.put q.1 .dead) q.1=_ from jC (u:=.put q.1 .dead)];rfl
        have hd2:((G.up (.put q.1 .dead)) (N+k)).sv=.dead:=by rw[oQ (u:=.put q.1 .dead) hrn];exact hGn
        have q2:=(q1.rekey [] hd1 hd2).hand (n:=N+k) (d:=e) (c:=c) (lI hvr)
        have hsx:sv g x≠.dead:=fun e=>by rw[e] at hr;simp[BO1] at hr
        have hlt:∀ u ∈ [Up.put q.1 .dead],u.slot < N:=fun u hu=>by rw[Ay.1 hu];exact hrN
        have hdn:((g.ups [Up.put q.1 .dead]) (N+k)).sv=.dead:=hD.ups hlt _ (by omega)
        have hsub1:Sub (g.ups [Up.put q.1 .dead]) (G.ups [Up.put q.1 .dead]):=hs.upD
        refine go _ _ _ _ q2 (.rekey _ _) (hsub1.hand hdn) hlt (fun i hi=>by rw[cX hi];rfl) (fun i hi=>by simp[upd,hi]) ?_
        intro G' V' e1 e2 hh
        have hx0:evl V x=evl V0 x:=A8b hD hsx hV
        exact⟨⟨⟨hnp,hnp'⟩,⟨d,hg,hdt,hfb,rfl,fun cr L c h1 h2 h3 h4=>by rw[← hx0];exact hval cr L c (by rw[hV _ hrN];exact h1) h2 h3 h4⟩,hnb,hinb,by rw[e1];exact bM,hrN,by rw[e2,← hV _ hrN,hVr];simp[upd]⟩,hh⟩
       ·cases ho
      ·cases ho
     ·cases ho
    ·cases ho
  ·cases hp
end
end Go.Rf

end
section
namespace Go.Rf
set_option linter.unusedSectionVars false
variable [T:Laid]
section
variable {P:Program} {H:Nat→Option (List Value)} {N:Nat} {g g' G σ:yL} {V V' V0:Nat→Option Value} {w w':World} {S S':Nat→Prop} {β β':Key→Option Nat} {a:Act} {o:Oper}
variable {E:Env} {gv:yL} {us:List Up}
theorem Ap6:∀ {rs:List (Nat × Nat)} {cs:FCaps},AG9 g rs=some cs→∀ x ∈ rs,(g x.1).sv≠.dead
 | [],_,_=>by simp
 | (r,s) :: rs,cs,h=>by
  simp only[AG9] at h
  intro x hx
  split at h
  ·rename_i he
   split at h
   ·obtain⟨cs',h,_⟩:=Ad.1 h
    rcases Ag.1 hx with rfl|hx
    ·simp[he]
    ·exact Ap6 h x hx
   ·cases h
  ·rename_i he
   split at h
   ·obtain⟨cs',h,_⟩:=Ad.1 h
    rcases Ag.1 hx with rfl|hx
    ·simp[he]
    ·exact Ap6 h x hx
   ·cases h
  ·cases h
theorem BE5 {x:Operand} {d:Dat} (h:xJ g (sv g x)=some d):∀ r ∈ cU g x (sv g x),(g r).sv≠.dead:=by
 cases hx:sv g x with
 | dat e=>
  simp only[cU]
  split
  ·simp
  ·split
   ·rename_i s
    intro r hr
    rw[Ay.1 hr]
    have:(g s).sv=.dat e:=hx
    rw[this];simp
   ·simp
 | als r p c s=>
  simp only[cU]
  split
  ·rename_i d hd
   split
   ·simp
   ·intro r' hr
    rw[Ay.1 hr]
    obtain⟨e,he,_⟩:=dO hd
    rw[he];simp
  ·simp
 | pend r p c s u e=>
  rw[hx] at h
  simp only[xJ] at h
  split at h
  ·split at h
   ·rename_i e' he
    intro r' hr
    simp only[cU,A1,Ay] at hr
    rcases hr with hr|rfl
    ·split at hr
     ·rename_i i
      rw[Ay.1 hr]
      have:(g i).sv=_:=hx
      rw[this];simp
     ·cases hr
    ·rw[he];simp
   ·cases h
  ·cases h
 | clo f rs=>
  rw[hx] at h
  simp only[xJ,Ad] at h
  obtain⟨cs,hc,_⟩:=h
  intro r hr
  simp only[cU,Au] at hr
  obtain⟨y,hy,rfl⟩:=hr
  exact Ap6 hc y hy
 | _=>simp[cU]
theorem BP4 {x:Operand} {d:Dat} (hs:Sub g G) (h:xJ g (sv g x)=some d):cU G x (sv G x)=cU g x (sv g x):=by
 have hn:sv g x≠.dead:=fun e=>by rw[e] at h;simp[xJ] at h
 rw[hs.sv rfl hn]
 cases hx:sv g x with
 | als r p c s=>
  rw[hx] at h
  simp only[xJ] at h
  split at h
  ·split at h
   ·rename_i d' hd
    simp only[cU]
    rw[hd,(hs.atP hd).1]
   ·cases h
  ·cases h
 | _=>rfl
structure BackIo (H:Nat→Option (List Value)) (N:Nat) (S:Nat→Prop) (β:Key→Option Nat) (w:World) (V0:Nat→Option Value) (t:Ty) (fo:Fl) (c:List Value) (o:Io) (k:Nat):Prop where
 lt:o.r < N
 np:fo.nopin=true
 at_:∃ (d0:Dat) (cr:List Value) (L:Loc),xQ o.p o.e.t o.e.f o.e.x=some d0∧d0.t=t∧d0.f.base≠.gone∧inB o.p o.e.t o.e.x∧V0 o.r=some (yK o.e.t cr) ∧
  zX S β H w [N+k] o.e.t o.e.f o.e.x cr∧tJ w o.e.t (.reg cr) o.p=some (d0.t,L)∧zG w d0.t.size L=some c∧lV H d0.f c
def iQ (H:Nat→Option (List Value)) (N:Nat) (S:Nat→Prop) (β:Key→Option Nat) (w:World) (V0:Nat→Option Value):List Mode→List (List Value)→List Io→Nat→Prop
 | [],[],[],_=>True
 | .ro _ :: ms,_ :: cs,rs,k=>iQ H N S β w V0 ms cs rs (k+1)
 | .mv _ _ :: ms,_ :: cs,rs,k=>iQ H N S β w V0 ms cs rs (k+1)
 | .io t _ fo _ _ :: ms,c :: cs,o :: rs,k=>BackIo H N S β w V0 t fo c o k∧iQ H N S β w V0 ms cs rs (k+1)
 | _,_,_,_=>False
def At5:List Mode→List Io→Nat→Nat→Key
 | .io _ _ _ _ _ :: ms,o :: os,i,j=>if j=i then wL o.p else At5 ms os (i+1) j
 | .ro _ :: ms,os,i,j=>At5 ms os (i+1) j
 | .mv _ _ :: ms,os,i,j=>At5 ms os (i+1) j
 | _,_,_,_=>[]
theorem A4c:∀ {ms:List Mode} {os:List Io} {i j:Nat},j < i→At5 ms os i j=[]
 | .io _ _ _ _ _ :: ms,o :: os,i,j,h=>by simp only[At5];rw[Ao (by omega)];exact A4c (by omega)
 | .ro _ :: ms,os,i,j,h=>by simp only[At5];exact A4c (by omega)
 | .mv _ _ :: ms,os,i,j,h=>by simp only[At5];exact A4c (by omega)
 | [],_,_,_,_=>by simp[At5]
 | .io _ _ _ _ _ :: _,[],_,_,_=>by simp[At5]
def Af4 (N:Nat) (ks:Nat→Key) (β:Key→Option Nat):Key→Option Nat
 | i :: s=>β ((N+i) :: (ks i++s))
 | []=>none
theorem cA {ks:Nat→Key}:∀ {ms:List Mode} {xs:List Operand} {hs:List (Option Dyn)} {rs:List Io} {k:Nat} {ds:List Dyn} {lent:List Nat},
  Rel H N G V w S β→Sub g G→yW N g→(∀ i,i < N→V i=V0 i)→eC N w G V V0 ms xs hs rs k→(∀ j,k≤j→ks j=At5 ms rs k j)→fP g ms xs hs=some (ds,lent) →
  ∃ cs:List (List Value),xs.map (evl V0 ·)=(yP ds cs).map some∧(∀ r ∈ lent,r < N)∧iQ H N S β w V0 ms cs rs k ∧
   ∀ L:List Nat,(∀ r ∈ lent,r ∈ L)→tM (A4K S β L) (Af4 N ks β) w ms ds cs k
 | [],[],[],rs,k,ds,lent,h,hs,hD,hV,hh,hk,hd=>by
  simp only[fP,Aa,Ar] at hd
  obtain⟨rfl,rfl⟩:=hd
  refine⟨[],by simp[yP],by simp,?_,fun L _=>by simp[tM]⟩
  cases rs with
  | nil=>simp[iQ]
  | cons _ _=>simp[eC] at hh
 | .ro t :: ms,x :: xs,none :: hs',rs,k,ds,lent,h,hs,hD,hV,hh,hk,hd=>by
  simp only[eC] at hh
  have hk':∀ j,k+1≤j→ks j=At5 ms rs (k+1) j:=fun j hj=>by rw[hk j (by omega)];simp only[At5]
  have nilcase:∀ {τ:Ty},sv g x=.nils→t=.sl τ→((fP g ms xs hs').map fun r=>((⟨.sl τ,([]:List τ.D)⟩:Dyn) :: r.1,r.2))=some (ds,lent)→∃ cs:List (List Value),(x :: xs).map (evl V0 ·)=(yP ds cs).map some∧(∀ r ∈ lent,r < N)∧iQ H N S β w V0 (.ro t :: ms) cs rs k ∧
    ∀ L:List Nat,(∀ r ∈ lent,r ∈ L)→tM (A4K S β L) (Af4 N ks β) w (.ro t :: ms) ds cs k:=by
   intro τ hx ht hq
   obtain⟨r,hr,e⟩:=Ad.1 hq
   subst ht
   simp only[Ar] at e
   obtain⟨rfl,rfl⟩:=e
   obtain⟨cs,h1,h2,h3,h4⟩:=cA (k:=k+1) h hs hD hV hh hk' hr
   refine⟨[.slice none 0 0] :: cs,?_,h2,h3,fun L hL=>⟨rfl,?_,h4 L hL⟩⟩
   ·rcases AH4 (hs.sv hx (by simp)) with ⟨s,rfl,hss⟩| rfl
    ·have:=h.slots s
     rw[hss] at this;exact this.elim
    ·simp only[Ai,yP,h1];rfl
   ·simp only[Rd]
    exact⟨none,0,rfl,Al _,.inl rfl⟩
  have datcase:∀ {d:Dat},xJ g (sv g x)=some d→d.t=t→((fP g ms xs hs').map fun r=>((⟨d.t,d.x⟩:Dyn) :: r.1,cU g x (sv g x)++r.2))=some (ds,lent)→∃ cs:List (List Value),(x :: xs).map (evl V0 ·)=(yP ds cs).map some∧(∀ r ∈ lent,r < N)∧iQ H N S β w V0 (.ro t :: ms) cs rs k ∧
    ∀ L:List Nat,(∀ r ∈ lent,r ∈ L)→tM (A4K S β L) (Af4 N ks β) w (.ro t :: ms) ds cs k:=by
   intro d hx ht hq
   obtain⟨r,hr,e⟩:=Ad.1 hq
   simp only[Ar] at e
   obtain⟨rfl,rfl⟩:=e
   obtain⟨cs,h1,h2,h3,h4⟩:=cA (k:=k+1) h hs hD hV hh hk' hr
   obtain⟨c,hc,hrd⟩:=A8x h (rL hs hx)
   rw[BP4 hs hx] at hrd
   refine⟨c :: cs,?_,fun r hr=>?_,h3,fun L hL=>⟨ht,?_,h4 L fun r hr=>hL r (A5 _ hr)⟩⟩
   ·simp only[Ai,yP,h1]
    rw[← A8b hD (fun e=>by rw[e] at hx;simp[xJ] at hx) hV,hc]
   ·rcases A1.1 hr with hr|hr
    ·exact hD.lt (BE5 hx r hr)
    ·exact h2 r hr
   ·exact yA (fun b hb=>⟨hb.imp id fun ⟨r,hr,q⟩=>⟨r,hL r (A7 _ hr),q⟩,rfl⟩) hrd
  simp only[fP] at hd
  split at hd
  ·rename_i hx
   split at hd
   ·exact nilcase hx rfl hd
   ·cases hd
  ·split at hd
   ·rename_i d hx
    split at hd
    ·rename_i ht;exact datcase hx ht hd
    ·cases hd
   ·cases hd
 | .mv t f :: ms,x :: xs,some d :: hs',rs,k,ds,lent,h,hs,hD,hV,hh,hk,hd=>by
  simp only[eC] at hh
  have hk':∀ j,k+1≤j→ks j=At5 ms rs (k+1) j:=fun j hj=>by rw[hk j (by omega)];simp only[At5]
  have hk0:ks k=[]:=by rw[hk k (Al _)];simp only[At5];exact A4c (by omega)
  obtain⟨h1,h2,h3,h4,hh⟩:=hh
  simp only[fP] at hd
  obtain⟨r,hr,e⟩:=Ad.1 hd
  simp only[Ar] at e
  obtain⟨rfl,rfl⟩:=e
  obtain⟨cs,q1,q2,q3,q4⟩:=cA (k:=k+1) h hs hD hV hh hk' hr
  obtain⟨c,hv,hc⟩:=h.dat h3
  refine⟨c :: cs,?_,q2,q3,fun L hL=>⟨h1,h2,?_,q4 L hL⟩⟩
  ·simp only[Ai,yP,q1]
   rw[← h4,hc]
  ·exact AD3 h2 (zS (fun b hb=>⟨.inl hb,rfl⟩) (fun s b hb=>⟨by simpa[Af4,hk0] using hb,rfl⟩) hv)
 | .io t f fo sl pa :: ms,x :: xs,some d :: hs',rs,k,ds,lent,h,hs,hD,hV,hh,hk,hd=>by
  cases rs with
  | nil=>simp[eC] at hh
  | cons o rs=>
  simp only[eC] at hh
  have hk':∀ j,k+1≤j→ks j=At5 ms rs (k+1) j:=fun j hj=>by rw[hk j (by omega)];simp only[At5];rw[Ao (by omega)]
  have hk0:ks k=wL o.p:=by rw[hk k (Al _)];simp only[At5,AJ]
  obtain⟨⟨hnp,⟨d0,hg,hdt,hfb,rfl,hval⟩,hne,hinb,hsv,hlt,hv0⟩,hh⟩:=hh
  simp only[fP] at hd
  obtain⟨r,hr,e⟩:=Ad.1 hd
  simp only[Ar] at e
  obtain⟨rfl,rfl⟩:=e
  obtain⟨cs,q1,q2,q3,q4⟩:=cA (k:=k+1) h hs hD hV hh hk' hr
  obtain⟨cr,hvr,hVr⟩:=h.dat hsv
  have hl:=yC hvr
  have hV0:V0 o.r=some (yK o.e.t cr):=by rw[← hv0];exact hVr
  have hgb:d0.f.base≠.gone:=by
   rw[hfb]
   rw[AF8 hnp.1] at hne;exact hne
  obtain⟨L,c,w1,w2,w3⟩:=A9I (L:=.reg cr) hg hinb hgb (by simp[zG,hl]) hvr
  have hev:=hval cr L c hV0 hl w1 w2
  refine⟨c :: cs,?_,q2,⟨⟨hlt,hnp.2,d0,cr,L,hg,hdt,hgb,hinb,hV0,hvr,w1,w2,tC w3⟩,q3⟩,fun L hL=>⟨hdt,hnp,?_,q4 L hL⟩⟩
  ·simp only[Ai,yP,q1,hev]
  ·refine AD3 (H:=H) hnp.1 ?_
   rw[← hfb]
   exact cZ (zS (fun b hb=>⟨.inl hb,rfl⟩) (fun s b hb=>⟨by simpa[Af4,hk0] using hb,rfl⟩) w3)
 | [],_ :: _,_,_,_,_,_,_,_,_,_,_,_,hd=>by simp[fP] at hd
 | [],[],_ :: _,_,_,_,_,_,_,_,_,_,_,hd=>by simp[fP] at hd
 | .ro _ :: _,[],_,_,_,_,_,_,_,_,_,_,_,hd=>by simp[fP] at hd
 | .mv _ _ :: _,[],_,_,_,_,_,_,_,_,_,_,_,hd=>by simp[fP] at hd
 | .io _ _ _ _ _ :: _,[],_,_,_,_,_,_,_,_,_,_,_,hd=>by simp[fP] at hd
 | .ro _ :: _,_ :: _,[],_,_,_,_,_,_,_,_,_,_,hd=>by simp[fP] at hd
 | .mv _ _ :: _,_ :: _,[],_,_,_,_,_,_,_,_,_,_,hd=>by simp[fP] at hd
 | .io _ _ _ _ _ :: _,_ :: _,[],_,_,_,_,_,_,_,_,_,_,hd=>by simp[fP] at hd
 | .ro _ :: _,_ :: _,some _ :: _,_,_,_,_,_,_,_,_,hh,_,_=>by simp[eC] at hh
 | .mv _ _ :: _,_ :: _,none :: _,_,_,_,_,_,_,_,_,hh,_,_=>by simp[eC] at hh
 | .io _ _ _ _ _ :: _,_ :: _,none :: _,_,_,_,_,_,_,_,_,hh,_,_=>by simp[eC] at hh
end
end Go.Rf

end
section
namespace Go.Rf
set_option linter.unusedSectionVars false
variable [T:Laid]
section
variable {P:Program} {H:Nat→Option (List Value)} {N:Nat} {g g' G σ:yL} {V V' V0:Nat→Option Value} {w w' w2:World} {S S' S2:Nat→Prop} {β β' β2:Key→Option Nat} {a:Act} {o:Oper}
variable {E:Env} {gv:yL} {us:List Up}
def AB0:List Mode→List Io→Nat→Nat→Option (Nat × Key)
 | .io _ _ _ _ _ :: ms,o :: rs,i,j=>if j=o.r then some (i,wL o.p) else AB0 ms rs (i+1) j
 | .ro _ :: ms,rs,i,j=>AB0 ms rs (i+1) j
 | .mv _ _ :: ms,rs,i,j=>AB0 ms rs (i+1) j
 | _,_,_,_=>none
theorem Ap4:∀ {ms:List Mode} {rs:List Io} {i j:Nat} {m:Nat × Key},AB0 ms rs i j=some m→i≤m.1
 | .io _ _ _ _ _ :: ms,o :: rs,i,j,m,h=>by
  simp only[AB0] at h
  split at h
  ·simp only[Aa] at h;subst h;exact Al _
  ·have:=Ap4 h;omega
 | .ro _ :: ms,rs,i,j,m,h=>by simp only[AB0] at h;have:=Ap4 h;omega
 | .mv _ _ :: ms,rs,i,j,m,h=>by simp only[AB0] at h;have:=Ap4 h;omega
 | [],_,_,_,_,h=>by simp[AB0] at h
 | .io _ _ _ _ _ :: _,[],_,_,_,h=>by simp[AB0] at h
theorem A0E:∀ {ms:List Mode} {rs:List Io} {i j j':Nat} {m m':Nat × Key},AB0 ms rs i j=some m→AB0 ms rs i j'=some m'→m.1=m'.1→j=j'
 | .io _ _ _ _ _ :: ms,o :: rs,i,j,j',m,m',h,h',e=>by
  simp only[AB0] at h h'
  split at h<;>split at h'
  ·rename_i e e';rw[e,e']
  ·simp only[Aa] at h;subst h;have:=Ap4 h';simp only at e;omega
  ·simp only[Aa] at h';subst h';have:=Ap4 h;simp only at e;omega
  ·exact A0E h h' e
 | .ro _ :: ms,rs,i,j,j',m,m',h,h',e=>by simp only[AB0] at h h';exact A0E h h' e
 | .mv _ _ :: ms,rs,i,j,j',m,m',h,h',e=>by simp only[AB0] at h h';exact A0E h h' e
 | [],_,_,_,_,_,_,h,_,_=>by simp[AB0] at h
 | .io _ _ _ _ _ :: _,[],_,_,_,_,_,h,_,_=>by simp[AB0] at h
theorem AM0:∀ {ms:List Mode} {rs:List Io} {i j:Nat} {m:Nat × Key},AB0 ms rs i j=some m→j ∈ rs.map Io.r
 | .io _ _ _ _ _ :: ms,o :: rs,i,j,m,h=>by
  simp only[AB0] at h
  split at h
  ·rename_i e;simp[e]
  ·simp only[Ai,Ag];exact .inr (AM0 h)
 | .ro _ :: ms,rs,i,j,m,h=>by simp only[AB0] at h;exact AM0 h
 | .mv _ _ :: ms,rs,i,j,m,h=>by simp only[AB0] at h;exact AM0 h
 | [],_,_,_,_,h=>by simp[AB0] at h
 | .io _ _ _ _ _ :: _,[],_,_,_,h=>by simp[AB0] at h
theorem A3x:∀ {ms:List Mode} {rs:List Io} {i j:Nat} {m:Nat × Key},AB0 ms rs i j=some m→At5 ms rs i m.1=m.2
 | .io _ _ _ _ _ :: ms,o :: rs,i,j,m,h=>by
  simp only[AB0] at h
  simp only[At5]
  split at h
  ·simp only[Aa] at h;subst h;simp
  ·have:=Ap4 h;rw[Ao (by omega)];exact A3x h
 | .ro _ :: ms,rs,i,j,m,h=>by simp only[AB0] at h;simp only[At5];exact A3x h
 | .mv _ _ :: ms,rs,i,j,m,h=>by simp only[AB0] at h;simp only[At5];exact A3x h
 | [],_,_,_,_,h=>by simp[AB0] at h
 | .io _ _ _ _ _ :: _,[],_,_,_,h=>by simp[AB0] at h
def pM:Nat→Key→Option Key
 | k,0 :: s=>some (2 * k :: s)
 | k,1 :: s=>pM (k+1) s
 | _,_=>none
theorem AE0:∀ {s:Key} {k:Nat} {q:Key},pM k s=some q→∃ m t,q=2 * m :: t∧k≤m
 | [],_,_,h=>by simp[pM] at h
 | 0 :: s,k,q,h=>by simp only[pM,Aa] at h;exact⟨k,s,h.symm,Al _⟩
 | 1 :: s,k,q,h=>by
  simp only[pM] at h
  obtain⟨m,t,e,hm⟩:=AE0 h
  exact⟨m,t,e,by omega⟩
 | (_+2) :: _,_,_,h=>by simp[pM] at h
theorem A0l:∀ {s s':Key} {k:Nat} {q:Key},pM k s=some q→pM k s'=some q→s=s'
 | 0 :: s,0 :: s',k,q,h,h'=>by
  simp only[pM,Aa] at h h'
  rw[← h'] at h;simp only[Af,true_and] at h;rw[h]
 | 1 :: s,1 :: s',k,q,h,h'=>by
  simp only[pM] at h h'
  rw[A0l h h']
 | 0 :: s,1 :: s',k,q,h,h'=>by
  simp only[pM,Aa] at h h'
  obtain⟨m,t,e,hm⟩:=AE0 h'
  rw[e] at h;simp only[Af] at h;omega
 | 1 :: s,0 :: s',k,q,h,h'=>by
  simp only[pM,Aa] at h h'
  obtain⟨m,t,e,hm⟩:=AE0 h
  rw[e] at h';simp only[Af] at h';omega
 | [],_,_,_,h,_=>by simp[pM] at h
 | (_+2) :: _,_,_,_,h,_=>by simp[pM] at h
 | _,[],_,_,_,h=>by simp[pM] at h
 | _,(_+2) :: _,_,_,_,h=>by simp[pM] at h
def Bi5 (one:Bool) (dst:Option Nat) (io:Nat→Option (Nat × Key)) (j:Nat) (s:Key):Option Key:=
 if dst=some j then (if one then some (0 :: s) else pM 0 s) else (io j).bind fun m=>(pX m.2 s).map fun s=>(2 * m.1+1) :: s
theorem Bo8 {one:Bool} {dst:Option Nat} {io:Nat→Option (Nat × Key)} (hio:∀ j j' m m',io j=some m→io j'=some m'→m.1=m'.1→j=j') {j j':Nat} {s s' q:Key}
  (h:Bi5 one dst io j s=some q) (h':Bi5 one dst io j' s'=some q):j=j'∧s=s':=by
 unfold Bi5 at h h'
 have even:∀ {s:Key},(if one=true then some (0 :: s) else pM 0 s)=some q→∃ m t,q=2 * m :: t:=fun {s} h=>by
  split at h
  ·simp only[Aa] at h;exact⟨0,s,h.symm⟩
  ·obtain⟨m,t,e,_⟩:=AE0 h;exact⟨m,t,e⟩
 have odd:∀ {j:Nat} {s:Key},((io j).bind fun m=>(pX m.2 s).map fun s=>(2 * m.1+1) :: s)=some q→∃ m s2,io j=some m∧s=m.2++s2∧q=(2 * m.1+1) :: s2:=fun {j s} h=>by
  obtain⟨m,h1,h2⟩:=Ae.1 h
  obtain⟨s2,h3,h4⟩:=Ad.1 h2
  exact⟨m,s2,h1,jX.1 h3,h4.symm⟩
 split at h<;>split at h'
 ·rename_i e e'
  rw[e] at e'
  refine⟨by simpa using e',?_⟩
  split at h
  ·simp only[Aa] at h h'
   rw[Ak (by assumption)] at h'
   simp only[Aa] at h'
   rw[← h'] at h;simpa using h
  ·rw[Ao (by assumption)] at h'
   exact A0l h h'
 ·obtain⟨m,t,e⟩:=even h
  obtain⟨i,s2,_,_,e'⟩:=odd h'
  rw[e] at e';simp only[Af] at e';omega
 ·obtain⟨m,t,e⟩:=even h'
  obtain⟨i,s2,_,_,e'⟩:=odd h
  rw[e] at e';simp only[Af] at e';omega
 ·obtain⟨m,s2,h1,h2,e⟩:=odd h
  obtain⟨m',s2',h1',h2',e'⟩:=odd h'
  rw[e] at e'
  simp only[Af] at e'
  have hj:=hio _ _ _ _ h1 h1' (by omega)
  subst hj
  rw[h1] at h1'
  simp only[Aa] at h1'
  subst h1'
  exact⟨rfl,by rw[h2,h2',e'.2]⟩
def Aq4 (N:Nat) (one:Bool) (dst:Option Nat) (io:Nat→Option (Nat × Key)) (β β2:Key→Option Nat):Key→Option Nat
 | j :: s=>if N≤j then none else
  match Bi5 one dst io j s with
  | some q=>β2 q
  | none=>if dst=some j then none else match io j with
   | some m=>β ((N+m.1) :: s)
   | none=>β (j :: s)
 | []=>none
def Was (N:Nat) (io:Nat→Option (Nat × Key)) (j:Nat) (s κ:Key):Prop:=(io j=none∧κ=j :: s)∨∃ m,io j=some m∧pX m.2 s=none∧κ=(N+m.1) :: s
theorem aW {one:Bool} {dst:Option Nat} {io:Nat→Option (Nat × Key)} {k:Key} {b:Nat} (h:Aq4 N one dst io β β2 k=some b):
  ∃ j s,k=j :: s∧j < N∧((∃ q,Bi5 one dst io j s=some q∧β2 q=some b)∨∃ κ,Was N io j s κ∧β κ=some b):=by
 cases k with
 | nil=>simp[Aq4] at h
 | cons j s=>
  simp only[Aq4] at h
  split at h
  ·cases h
  ·rename_i hN
   refine⟨j,s,rfl,by omega,?_⟩
   split at h
   ·rename_i q hq;exact .inl ⟨q,hq,h⟩
   ·rename_i hq
    split at h
    ·cases h
    ·rename_i hd
     unfold Bi5 at hq
     rw[Ao hd] at hq
     split at h
     ·rename_i m hm
      rw[hm] at hq
      simp only[AV,Option.map_eq_none_iff] at hq
      exact .inr ⟨_,.inr ⟨m,hm,hq,rfl⟩,h⟩
     ·rename_i hm
      exact .inr ⟨_,.inl ⟨hm,rfl⟩,h⟩
theorem BY3 {one:Bool} {dst:Option Nat} {io:Nat→Option (Nat × Key)} {ks:Nat→Key} {lent:List Nat} (hio:∀ j j' m m',io j=some m→io j'=some m'→m.1=m'.1→j=j') (hks:∀ j m,io j=some m→ks m.1=m.2)
  (hs:Sane w S β) (h2:Sane w2 S2 β2) (hst:Step w (A4K S β lent) (Af4 N ks β) w2 S2 β2) {S':Nat→Prop} (hS':(S'=S2∧lent=[])∨S'=S):
  Sane w2 S' (Aq4 N one dst io β β2)∧Step w S β w2 S' (Aq4 N one dst io β β2):=by
 have hand:∀ {k b},Af4 N ks β k=some b→∃ i s,β ((N+i) :: (ks i++s))=some b:=fun {k b} h=>by
  cases k with
  | nil=>simp[Af4] at h
  | cons i s=>exact⟨i,s,h⟩
 have apartK:∀ {j s κ b k},j < N→Was N io j s κ→β κ=some b→Af4 N ks β k=some b→False:=fun {j s κ b k} hj hw hb hk=>by
  obtain⟨i,s',e⟩:=hand hk
  have:=hs.inj _ _ _ hb e
  rcases hw with ⟨_,rfl⟩| ⟨m,hm,hst,rfl⟩
  ·simp only[Af] at this;omega
  ·simp only[Af] at this
   have hi:i=m.1:=by omega
   subst hi
   rw[hks j m hm] at this
   exact aK hst _ this.2
 have far:∀ {q b j s κ},β2 q=some b→j < N→Was N io j s κ→β κ=some b→False:=fun {q b j s κ} hq hj hw hb=>by
  rcases hst.new q b hq with ⟨k',e⟩| e
  ·exact apartK hj hw hb e
  ·have:=hs.live _ _ hb;omega
 refine⟨⟨fun k k' b hk hk'=>?_,fun k b hk hb=>?_,fun k b hk=>?_,fun b hb=>?_,hs.tabs fun b hb=>⟨hS'.elim (fun h=>h.1▸hst.keepS b (.inl hb)) (fun h=>h▸hb),hst.old b (hs.liveS b hb) (fun k hk=>by obtain⟨i,s',e⟩:=hand hk;exact hs.sep _ _ e hb)⟩⟩,⟨hst.size,fun b hb hk=>?_,fun k b hk=>?_,fun b hb=>?_,fun b hb=>?_,hst.out⟩⟩
 ·obtain⟨j,s,rfl,hj,h⟩:=aW hk
  obtain⟨j',s',rfl,hj',h'⟩:=aW hk'
  rcases h with ⟨q,n1,n2⟩| ⟨κ,n0,n1⟩<;>rcases h' with ⟨q',m1,m2⟩| ⟨κ',m0,m1⟩
  ·have:=h2.inj _ _ _ n2 m2
   subst this
   obtain⟨e1,e2⟩:=Bo8 hio n1 m1
   rw[e1,e2]
  ·exact (far n2 hj' m0 m1).elim
  ·exact (far m2 hj n0 n1).elim
  ·have:=hs.inj _ _ _ n1 m1
   rcases n0 with ⟨_,rfl⟩| ⟨m,hm,_,rfl⟩<;>rcases m0 with ⟨_,rfl⟩| ⟨m',hm',_,rfl⟩
   ·exact this
   ·simp only[Af] at this;omega
   ·simp only[Af] at this;omega
   ·simp only[Af] at this
    rw[hio _ _ _ _ hm hm' (by omega),this.2]
 ·obtain⟨j,s,rfl,hj,h⟩:=aW hk
  rcases h with ⟨q,n1,n2⟩| ⟨κ,n0,n1⟩
  ·rcases hS' with ⟨rfl,_⟩| rfl
   ·exact h2.sep _ _ n2 hb
   ·exact h2.sep _ _ n2 (hst.keepS b (.inl hb))
  ·rcases hS' with ⟨rfl,hl⟩| rfl
   ·rcases hst.newS b hb with (h|⟨r,hr,_⟩)| ⟨k',e⟩| e
    ·exact hs.sep _ _ n1 h
    ·rw[hl] at hr;cases hr
    ·exact apartK hj n0 n1 e
    ·have:=hs.live _ _ n1;omega
   ·exact hs.sep _ _ n1 hb
 ·obtain⟨j,s,rfl,hj,h⟩:=aW hk
  rcases h with ⟨q,n1,n2⟩| ⟨κ,n0,n1⟩
  ·exact h2.live _ _ n2
  ·exact AC (hs.live _ _ n1) hst.size
 ·rcases hS' with ⟨rfl,_⟩| rfl
  ·exact h2.liveS b hb
  ·exact AC (hs.liveS b hb) hst.size
 ·exact hst.old b hb fun k hk'=>by
   obtain⟨i,s,e⟩:=hand hk'
   exact hk _ e
 ·obtain⟨j,s,rfl,hj,h⟩:=aW hk
  rcases h with ⟨q,n1,n2⟩| ⟨κ,n0,n1⟩
  ·rcases hst.new q b n2 with ⟨k',e⟩| e
   ·obtain⟨i,s',e⟩:=hand e
    exact .inl ⟨_,e⟩
   ·exact .inr e
  ·exact .inl ⟨_,n1⟩
 ·rcases hS' with ⟨rfl,_⟩| rfl
  ·exact hst.keepS b (.inl hb)
  ·exact hb
 ·rcases hS' with ⟨rfl,hl⟩| rfl
  ·rcases hst.newS b hb with (h|⟨r,hr,_⟩)| ⟨k',e⟩| e
   ·exact .inl h
   ·rw[hl] at hr;cases hr
   ·obtain⟨i,s',e⟩:=hand e
    exact .inr (.inl ⟨_,e⟩)
   ·exact .inr (.inr e)
  ·exact .inl hb
theorem A6p {ks:Nat→Key} {lent:List Nat} (hs:Sane w S β) (hl:∀ r ∈ lent,r < N):Sane w (A4K S β lent) (Af4 N ks β):=by
 refine⟨fun k k' b h h'=>?_,fun k b h hb=>?_,fun k b h=>?_,fun b hb=>?_,hs.tabs fun b hb=>⟨.inl hb,rfl⟩⟩
 ·cases k with
  | nil=>simp[Af4] at h
  | cons i s=>
   cases k' with
   | nil=>simp[Af4] at h'
   | cons i' s'=>
    have:=hs.inj _ _ _ h h'
    simp only[Af] at this ⊢
    have hi:i=i':=by omega
    subst hi
    exact⟨rfl,AD this.2⟩
 ·cases k with
  | nil=>simp[Af4] at h
  | cons i s=>
   rcases hb with hb|⟨r,hr,s',hb⟩
   ·exact hs.sep _ _ h hb
   ·have:=hs.inj _ _ _ h hb
    simp only[Af] at this
    have:=hl r hr;omega
 ·cases k with
  | nil=>simp[Af4] at h
  | cons i s=>exact hs.live _ _ h
 ·rcases hb with hb|⟨r,hr,s',hb⟩
  ·exact hs.liveS b hb
  ·exact hs.live _ _ hb
end
end Go.Rf

end
section
namespace Go.Rf
set_option linter.unusedSectionVars false
variable [T:Laid]
section
variable {P:Program} {H:Nat→Option (List Value)} {N:Nat} {g g' G σ:yL} {V V' V0:Nat→Option Value} {w w' w2:World} {S S' S2:Nat→Prop} {β β' β2:Key→Option Nat} {a:Act} {o:Oper}
variable {E:Env} {gv:yL} {us:List Up}
theorem A0o:∀ {n k:Nat} {t:Ty} {f:Fl} {x:t.D} {cs:List (List Value)},mQ S β w n k t f x cs→(iH n t cs).length=n
 | 0,_,_,_,_,[],_=>by simp[iH]
 | n+1,k,.pair a b,f,x,c :: cs,h=>by
  simp only[mQ] at h
  simp only[iH,Bp,A0o h.2]
 | 0,_,_,_,_,_ :: _,h=>by simp[mQ] at h
 | _+1,_,.pair _ _,_,_,[],h=>by simp[mQ] at h
 | _+1,_,.int _,_,_,_,h|_+1,_,.bool,_,_,_,h|_+1,_,.str,_,_,_,h|_+1,_,.fn,_,_,_,h|_+1,_,.unit,_,_,_,h
 | _+1,_,.sl _,_,_,_,h|_+1,_,.ptr _,_,_,_,h|_+1,_,.arr _ _,_,_,_,h=>by simp[mQ] at h
theorem A7S {vs:List Value} (h:vs.length≠1):At6 vs=.tuple vs.toArray:=by
 match vs,h with
 | [],_=>rfl
 | [v],h=>exact absurd rfl h
 | _ :: _ :: _,_=>rfl
theorem A9Z:∀ {n k:Nat} {t:Ty} {f:Fl} {x:t.D} {cs:List (List Value)} {key:Key},f.nopin=true→mQ S β2 w n k t f x cs →
  (∀ s b,(pM k s).bind β2=some b→β' (key++s)=some b) →
  zX S β' H w key (As7 n t) (A1d n f) (B1K n t x) cs.flatten∧Bu6 (As7 n t) cs.flatten=iH n t cs
 | 0,_,t,_,_,[],_,_,_,_=>by
  simp only[As7,A1d,B1K,List.flatten_nil]
  exact⟨xD.2 (by simp[Rd]),by simp[Bu6,iH]⟩
 | n+1,k,.pair a b,f,x,c :: cs,key,hf,h,hb=>by
  simp only[mQ] at h
  obtain⟨h1,h2⟩:=h
  have hl:=yC h1
  obtain⟨q1,q2⟩:=A9Z (n:=n) (k:=k+1) (key:=key++[1]) (Ba6 hf) h2 (fun s b' hs=>by
   rw[Bi]
   exact hb (1 :: s) b' (by simpa[pM] using hs))
  have ht:(c++cs.flatten).take a.size=c:=by rw[← hl];simp
  have hd:(c++cs.flatten).drop a.size=cs.flatten:=by rw[← hl];simp
  simp only[As7,A1d,B1K,Bh,Bu6,iH]
  refine⟨oT.2 ⟨?_,?_⟩,?_⟩
  ·rw[ht]
   refine AD3 (A7V hf) (zS (fun _ hb=>⟨hb,rfl⟩) (fun s b' hs=>⟨?_,rfl⟩) h1)
   rw[Bi]
   exact hb (0 :: s) b' (by simpa[pM] using hs)
  ·rw[hd];exact q1
  ·rw[ht,hd,q2]
 | 0,_,_,_,_,_ :: _,_,_,h,_=>by simp[mQ] at h
 | _+1,_,.pair _ _,_,_,[],_,_,h,_=>by simp[mQ] at h
 | _+1,_,.int _,_,_,_,_,_,h,_|_+1,_,.bool,_,_,_,_,_,h,_|_+1,_,.str,_,_,_,_,_,h,_|_+1,_,.fn,_,_,_,_,_,h,_|_+1,_,.unit,_,_,_,_,_,h,_
 | _+1,_,.sl _,_,_,_,_,_,h,_|_+1,_,.ptr _,_,_,_,_,_,h,_|_+1,_,.arr _ _,_,_,_,_,_,h,_=>by simp[mQ] at h
theorem BW0 {ms:List Mode} {t:Ty} {f fo:Fl} {sl:Nat} {pa:List PS} {o:Io} {rs:List Io} {i:Nat}:AB0 (.io t f fo sl pa :: ms) (o :: rs) i o.r=some (i,wL o.p):=by simp[AB0]
theorem AI9 {x:Nat} {l:List Nat} (h:iR (x :: l)=true):x ∉ l∧iR l=true:=by
 simp only[iR,Ac,Aq] at h
 refine⟨fun hx=>?_,h.2⟩
 have:l.any (Ap x ·)=true:=A8.2 ⟨x,hx,by simp⟩
 rw[this] at h;cases h.1
theorem aS {S1:Nat→Prop} {β1:Key→Option Nat} (hsame:∀ b,S1 b→S' b∧w2.heap[b]?=w.heap[b]?):∀ {ms:List Mode} {rs:List Io} {cs:List (List Value)} {i:Nat} {t:Ty} {x:t.D} {us:List Up} {G:yL},
  A2Q ms rs t x=some us→AP9 S2 β2 w2 ms cs i t x→iQ H N S1 β1 w V0 ms cs rs i→iR (rs.map Io.r)=true→(∀ r ∈ rs.map Io.r,V r=V0 r) →
  (∀ j m,AB0 ms rs i j=some m→(∀ s b,β2 ((2 * m.1+1) :: s)=some b→β' (j :: (m.2++s))=some b)∧∀ s b,¬ m.2 <+: s→β1 ((N+m.1) :: s)=some b→β' (j :: s)=some b∧w2.heap[b]?=w.heap[b]?) →
  ((∀ b,S2 b→S' b)∨bE ms=true)→Rel H N G V w2 S' β'→Rel H N (G.ups us) V w2 S' β'
 | [],[],[],i,t,x,us,G,hb,_,_,_,_,_,_,h=>by
  simp only[A2Q,Aa] at hb;subst hb;exact h
 | .ro _ :: ms,rs,_ :: cs,i,t,x,us,G,hb,hi,hk,hn,hG,hβ,hc,h=>by
  simp only[A2Q] at hb;simp only[AP9] at hi;simp only[iQ] at hk;simp only[AB0] at hβ;simp only[bE] at hc
  exact aS hsame hb hi hk hn hG hβ hc h
 | .mv _ _ :: ms,rs,_ :: cs,i,t,x,us,G,hb,hi,hk,hn,hG,hβ,hc,h=>by
  simp only[A2Q] at hb;simp only[AP9] at hi;simp only[iQ] at hk;simp only[AB0] at hβ;simp only[bE] at hc
  exact aS hsame hb hi hk hn hG hβ hc h
 | .io tm f fo sl pa :: ms,o :: rs,c :: cs,i,.pair ta tb,x,us,G,hb,hi,hk,hn,hG,hβ,hc,h=>by
  simp only[A2Q] at hb;simp only[AP9] at hi;simp only[iQ] at hk;simp only[bE,Ac] at hc
  obtain⟨rfl,hv,hi⟩:=hi
  obtain⟨⟨hrN,hfo,d0,cr,L,hg,hdt,hgb,hinb,hV0,hold,hw1,hw2,hpins⟩,hk⟩:=hk
  rw[hg] at hb
  simp only at hb
  split at hb
  ·rename_i y hm
   split at hb
   ·obtain⟨us',hb',rfl⟩:=Ad.1 hb
    simp only[Ai] at hn hG
    obtain⟨hr,hn⟩:=AI9 hn
    have hVr:=hG o.r (by simp)
    obtain⟨hβ1,hβ2⟩:=hβ o.r _ BW0
    simp only at hβ1 hβ2
    have hvv:zX S' β' H w2 ([o.r]++wL o.p) ta (d0.f.wrap fo) x.1 c:=by
     refine fZ hpins (AD3 (H:=noH) hfo ?_)
     have h1:zX S2 β' noH w2 ([o.r]++wL o.p) ta fo x.1 c:=zS (fun _ hb=>⟨hb,rfl⟩) (fun s b hb=>⟨by simpa using hβ1 s b (by simpa using hb),rfl⟩) hv
     rcases hc with hc|hc
     ·exact zS (fun b hb=>⟨hc b hb,rfl⟩) (fun s b hb=>⟨hb,rfl⟩) h1
     ·exact jB hc.1 h1
    have hnew:zX S' β' H w2 [o.r] o.e.t y.1 y.2 cr:=
     kI hsame (k:=[N+i]) hg hgb hinb (by have:=yC hold;simp[zG,this]) hw1 hw2 hm hold hvv (fun s b hs hbb=>by
      have:=hβ2 s b hs (by simpa using hbb)
      simpa using this)
    have h2:Rel H N (G.up (.put o.r (.dat ⟨o.e.t,y.2,y.1⟩))) V w2 S' β':=
     h.put h.sane (fun b hb=>⟨hb,rfl⟩) (fun j s b _ _ hb=>⟨hb,rfl⟩) (fun _ _=>rfl) ⟨cr,hnew,by rw[hVr];exact hV0⟩
    show Rel H N ((G.up (.put o.r (.dat ⟨o.e.t,y.2,y.1⟩))).ups us') V w2 S' β'
    refine aS hsame (i:=i+1) hb' hi hk hn (fun r' hr'=>hG r' (by simp[hr'])) (fun j m hj=>?_) (hc.imp id (·.2)) h2
    have hne:j≠o.r:=fun e=>hr (e▸AM0 hj)
    exact hβ j m (by simp only[AB0];rw[Ao hne];exact hj)
   ·cases hb
  ·cases hb
 | [],[],_ :: _,_,_,_,_,_,_,hi,_,_,_,_,_,_=>by simp[AP9] at hi
 | [],_ :: _,_,_,_,_,_,_,hb,_,_,_,_,_,_,_=>by simp[A2Q] at hb
 | .ro _ :: _,_,[],_,_,_,_,_,_,hi,_,_,_,_,_,_=>by simp[AP9] at hi
 | .mv _ _ :: _,_,[],_,_,_,_,_,_,hi,_,_,_,_,_,_=>by simp[AP9] at hi
 | .io _ _ _ _ _ :: _,_,[],_,_,_,_,_,_,hi,_,_,_,_,_,_=>by simp[AP9] at hi
 | .io _ _ _ _ _ :: _,[],_ :: _,_,_,_,_,_,_,_,hk,_,_,_,_,_=>by simp[iQ] at hk
 | .io _ _ _ _ _ :: _,_ :: _,_ :: _,_,.int _,_,_,_,_,hi,_,_,_,_,_,_|.io _ _ _ _ _ :: _,_ :: _,_ :: _,_,.bool,_,_,_,_,hi,_,_,_,_,_,_|.io _ _ _ _ _ :: _,_ :: _,_ :: _,_,.str,_,_,_,_,hi,_,_,_,_,_,_
 | .io _ _ _ _ _ :: _,_ :: _,_ :: _,_,.fn,_,_,_,_,hi,_,_,_,_,_,_|.io _ _ _ _ _ :: _,_ :: _,_ :: _,_,.unit,_,_,_,_,hi,_,_,_,_,_,_|.io _ _ _ _ _ :: _,_ :: _,_ :: _,_,.sl _,_,_,_,_,hi,_,_,_,_,_,_
 | .io _ _ _ _ _ :: _,_ :: _,_ :: _,_,.ptr _,_,_,_,_,hi,_,_,_,_,_,_|.io _ _ _ _ _ :: _,_ :: _,_ :: _,_,.arr _ _,_,_,_,_,hi,_,_,_,_,_,_=>by simp[AP9] at hi
theorem Rel.kills (h:Rel H N g V w S β):∀ {os:List Io},Rel H N (g.ups (kills os)) V w S β:=by
 intro os
 induction os generalizing g with
 | nil=>exact h
 | cons o os ih=>exact ih (h.kill fun _ _=>rfl)
theorem Br2 {os:List Io} (h:∀ o ∈ os,o.r < N):∀ u ∈ kills os,u.slot < N:=by
 induction os with
 | nil=>simp[Go.Rf.kills]
 | cons o os ih=>
  intro u hu
  simp only[Go.Rf.kills,Ag] at hu
  rcases hu with rfl|hu
  ·exact h o (by simp)
  ·exact ih (fun o ho=>h o (by simp[ho])) u hu
theorem A2d:∀ {os:List Io} {g:yL},∀ r ∈ os.map Io.r,((g.ups (kills os)) r).sv=.dead
 | [],_,r,h=>by simp at h
 | o :: os,g,r,h=>by
  simp only[Go.Rf.kills,yL.ups]
  by_cases hr:r ∈ os.map Io.r
  ·exact A2d r hr
  ·have:r=o.r:=by simp only[Ai,Ag] at h;exact h.resolve_right hr
   subst this
   rw[A7G]
   ·rw[show g.up (.put o.r .dead) o.r=_ from jC (u:=.put o.r .dead)];rfl
   ·intro u hu e
    have key:∀ {os:List Io},u ∈ Go.Rf.kills os→u.slot ∈ os.map Io.r:=by
     intro os
     induction os with
     | nil=>simp[Go.Rf.kills]
     | cons o' os ih=>
      intro hu
      simp only[Go.Rf.kills,Ag] at hu
      rcases hu with rfl|hu
      ·simp[Up.slot]
      ·simp only[Ai,Ag];exact .inr (ih hu)
    exact hr (e▸key hu)
theorem iQ.lt:∀ {ms:List Mode} {cs:List (List Value)} {rs:List Io} {k:Nat},iQ H N S β w V0 ms cs rs k→∀ o ∈ rs,o.r < N
 | [],[],[],_,_=>by simp
 | .ro _ :: ms,_ :: cs,rs,k,h=>by simp only[iQ] at h;exact iQ.lt h
 | .mv _ _ :: ms,_ :: cs,rs,k,h=>by simp only[iQ] at h;exact iQ.lt h
 | .io _ _ _ _ _ :: ms,c :: cs,o :: rs,k,h=>by
  simp only[iQ] at h
  intro o' ho'
  rcases Ag.1 ho' with rfl|ho'
  ·exact h.1.lt
  ·exact iQ.lt h.2 o' ho'
 | [],[],_ :: _,_,h|[],_ :: _,_,_,h|.ro _ :: _,[],_,_,h|.mv _ _ :: _,[],_,_,h|.io _ _ _ _ _ :: _,[],_,_,h|.io _ _ _ _ _ :: _,_ :: _,[],_,h=>by simp[iQ] at h
theorem Bc8 {ρ:Operand→Value} {c:Call} {f:FuncId} (ho:o.op=.call c) (hcal:c.callee=.value (.func f)) (hρ:ρ (.func f)=.func (.func f) #[] #[]):
  execOp ρ o=callFunc f (c.args.map ρ):=by
 unfold execOp
 simp[ho,resolve,hcal,Bq,invoke,hρ]
theorem BO4 {f:FuncId} {args:Array Value} {K:Act→World→Prop} {Q:Exit→Act→World→Prop} (he:execOp a.eval o=callFunc f args)
  (h:Ap1 P f args w fun v w'=>K (a.put o.dst v) w'):o.wp P a w K Q:=by
 unfold Oper.wp
 rw[he]
 rcases h with ⟨fn,h1,h2,h3,h4⟩| ⟨v,w',h1,h2⟩
 ·have hr:(callFunc f args).run P w=.ok (.enter f args) w:=by
   have h2':fn.name ≠ "runtime.NumGoroutine" := fun e=>by rw[e] at h2;simp at h2
   have h3':fn.body≠none:=fun e=>by rw[e] at h3;simp at h3
   simp only[callFunc,go_sem]
   simp[h1,h2',h3']
  rw[hr,Oper.upon_enter]
  exact h4.mono fun e w' he=>by cases e<;>first|exact he|exact he.elim
 ·rw[h1,Oper.upon_value];exact h2
theorem A7W {n d:Nat} {t:Ty} {f:Fl} {x:t.D} {crs:List (List Value)} {rv:SV} {gg:yL} (hr:Bq8 n (As7 n t) (B1K n t x) (A1d n f)=some rv) (h:mQ S2 β2 w n 0 t f x crs) (hf:f.nopin=true)
  (hc:(∀ b,S2 b→S' b)∨oB (As7 n t) (A1d n f)=true) (hβ:∀ s b,(if Ap n 1=true then some (0 :: s) else pM 0 s).bind β2=some b→β' (d :: s)=some b):
  mC H N gg (upd V d (At6 (iH n t crs))) w S' β' d rv:=by
 have many:n≠1→rv=.tup ⟨As7 n t,B1K n t x,A1d n f⟩→mC H N gg (upd V d (At6 (iH n t crs))) w S' β' d rv:=by
  intro hn e
  have hn':Ap n 1=false:=by
   cases h:Ap n 1 with
   | false=>rfl
   | true=>exact absurd (At h) hn
  obtain⟨q1,q2⟩:=A9Z (H:=H) (key:=[d]) hf h (fun s b hs=>by simpa using hβ s b (by rw[hn'];exact hs))
  subst e
  refine⟨crs.flatten,?_,?_⟩
  ·rcases hc with hc|hc
   ·exact zS (fun b hb=>⟨hc b hb,rfl⟩) (fun s b hb=>⟨hb,rfl⟩) q1
   ·exact jB hc q1
  ·rw[A7S (by rw[A0o h];exact hn)]
   simp only[upd,AJ,Bk2,q2]
 match n,h,hr with
 | 0,h,hr=>
  refine many (by omega) ?_
  simp only[Bq8,Aa] at hr
  exact hr.symm
 | n+2,h,hr=>
  refine many (by omega) ?_
  simp only[Bq8,Aa] at hr
  exact hr.symm
 | 1,h,hr=>
  cases t with
  | pair ta tb=>
   match crs,h with
   | [c],h=>
    simp only[mQ] at h
    have hr:(some (.dat ⟨ta,x.1,(Fl.mkpr f.l .sh).l⟩):Option SV)=some rv:=hr
    rw[A93] at hr
    simp only[Aa] at hr
    subst hr
    simp only[As7,A1d,oB,A93,Bool.and_true] at hc
    have h1:zX S2 β' H w [d] ta f.l x.1 c:=AD3 (H:=noH) (A7V hf) (zS (fun _ hb=>⟨hb,rfl⟩) (fun s b hb=>⟨by simpa using hβ s b (by simpa using hb),rfl⟩) h.1)
    refine⟨c,?_,by simp[upd,iH,At6]⟩
    rcases hc with hc|hc
    ·exact zS (fun b hb=>⟨hc b hb,rfl⟩) (fun s b hb=>⟨hb,rfl⟩) h1
    ·exact jB hc h1
   | [],h=>simp[mQ] at h
   | _ :: _ :: _,h=>simp[mQ] at h
  | _=>simp[mQ] at h
theorem A1W:∀ {xs:List Operand} {vs:List Value},xs.map (evl (vals a) ·)=vs.map some→xs.map a.eval=vs
 | [],[],_=>rfl
 | x :: xs,v :: vs,h=>by
  simp only[Ai,Af] at h ⊢
  exact⟨zP h.1,A1W h.2⟩
 | [],_ :: _,h=>by simp at h
 | _ :: _,[],h=>by simp at h
theorem Ao5 {d:Option Nat} {us:List Up} (r:Nat) (v:SV):Up.soften d g us (.put r v)=.mod r v∨Up.soften d g us (.put r v)=.put r v:=by
 by_cases h:(!B1e d r&&BH3 g us r)=true
 ·exact .inl (Ak h)
 ·exact .inr (Ao h)
theorem A06 {d:Option Nat} {us:List Up} {u:Up}:(Up.soften d g us u).slot=u.slot:=by
 cases u with
 | put r v=>rcases Ao5 (d:=d) (g:=g) (us:=us) r v with e|e<;>rw[e]<;>rfl
 | mod r v=>rfl
 | pub r v=>rfl
theorem Bk0 {d:Option Nat} {us:List Up} {u:Up}:(Up.soften d g us u).v=u.v:=by
 cases u with
 | put r v=>rcases Ao5 (d:=d) (g:=g) (us:=us) r v with e|e<;>rw[e]<;>rfl
 | mod r v=>rfl
 | pub r v=>rfl
theorem BZ4 {d:Option Nat} {us:List Up} {u:Up} (a:Slot):((Up.soften d g us u).on a).c=(u.on a).c∧((Up.soften d g us u).on a).u=(u.on a).u:=by
 cases u with
 | put r v=>rcases Ao5 (d:=d) (g:=g) (us:=us) r v with e|e<;>rw[e]<;>exact⟨rfl,rfl⟩
 | mod r v=>exact⟨rfl,rfl⟩
 | pub r v=>exact⟨rfl,rfl⟩
theorem B3V {u:Up} {a b:Slot} (h1:a.c=b.c) (h2:a.u=b.u):(u.on a).c=(u.on b).c∧(u.on a).u=(u.on b).u:=by
 cases u<;>simp[Up.on,h1,h2]
structure Alike (a b:Slot):Prop where
 sv:a.sv=b.sv
 c:a.c=b.c
 u:a.u=b.u
theorem Up.on_sv (u:Up) (a:Slot):(u.on a).sv=u.v:=by cases u<;>rfl
theorem Up.on_c (u:Up) (a:Slot):a.c≤(u.on a).c∧a.s≤(u.on a).s∧a.u≤(u.on a).u∧((u.on a).c=a.c→(u.on a).s=a.s):=by
 cases u<;>simp[Up.on]
theorem A1i (u:Up) (r:Nat):(g.up u) r=if r=u.slot then u.on (g r) else g r:=by
 by_cases h:r=u.slot
 ·rw[Ak h,h,jC]
 ·rw[Ao h,oQ h]
theorem A0J:∀ (us:List Up) (g:yL) (r:Nat),(g r).c≤((g.ups us) r).c∧(g r).s≤((g.ups us) r).s∧(((g.ups us) r).c=(g r).c→((g.ups us) r).s=(g r).s)
 | [],g,r=>⟨Al _,Al _,fun _=>rfl⟩
 | u :: us,g,r=>by
  obtain⟨h1,h2,h3⟩:=A0J us (g.up u) r
  have hu:=Up.on_c u (g r)
  have e:=A1i (g:=g) u r
  show (g r).c≤(((g.up u).ups us) r).c∧_
  by_cases h:r=u.slot
  ·rw[Ak h] at e
   rw[e] at h1 h2 h3
   obtain⟨u1,u2,u3,u4⟩:=hu
   refine⟨by omega,show (g r).s≤(((g.up u).ups us) r).s by omega,fun hc=>?_⟩
   have hc:(((g.up u).ups us) r).c=(g r).c:=hc
   have e3:=h3 (by omega)
   have e4:=u4 (by omega)
   show (((g.up u).ups us) r).s=_
   omega
  ·rw[Ao h] at e
   rw[e] at h1 h2 h3
   exact⟨h1,h2,h3⟩
theorem A3u:∀ (us:List Up) (g:yL) (r:Nat),us.all (fun u=>!u.v.refs)=true→(((g.ups us) r).sv.refs=true→((g.ups us) r).sv=(g r).sv)
 | [],g,r,_,_=>rfl
 | u :: us,g,r,ha,hr=>by
  rw[Bd,Ac] at ha
  have hr':(((g.up u).ups us) r).sv.refs=true:=hr
  have:=A3u us (g.up u) r ha.2 hr'
  show (((g.up u).ups us) r).sv=_
  rw[this]
  rw[this,A1i] at hr'
  rw[A1i]
  by_cases h:r=u.slot
  ·rw[Ak h,Up.on_sv] at hr'
   rw[hr'] at ha
   exact absurd ha.1 (by decide)
  ·rw[Ao h]
theorem A1x {d : Option Nat} {g0 : yL} {us0 : List Up} (r : Nat) : ∀ (us : List Up) (a b : Slot) (g1 g2 : yL), g1 r = a → g2 r = b → Alike a b →
    Alike ((g1.ups (us.map (Up.soften d g0 us0))) r) ((g2.ups us) r) ∧
    (((!B1e d r && BH3 g0 us0 r) = true ∧ ((g1.ups (us.map (Up.soften d g0 us0))) r).s = a.s) ∨
     ((!B1e d r && BH3 g0 us0 r) = false ∧ (a = b → (g1.ups (us.map (Up.soften d g0 us0))) r = (g2.ups us) r)))
  | [], a, b, g1, g2, h1, h2, hab => by
    subst h1 h2
    refine ⟨hab, ?_⟩
    cases hc : (!B1e d r && BH3 g0 us0 r) with
    | true => exact .inl ⟨rfl, rfl⟩
    | false => exact .inr ⟨rfl, fun h => h⟩
  | u :: us, a, b, g1, g2, h1, h2, hab => by
    by_cases hr : r = u.slot
    · have e1 : (g1.up (Up.soften d g0 us0 u)) r = (Up.soften d g0 us0 u).on a := by rw [A1i, A06, Ak hr, h1]
      have e2 : (g2.up u) r = u.on b := by rw [A1i, Ak hr, h2]
      have hal : Alike ((Up.soften d g0 us0 u).on a) (u.on b) := by
        have k1 := BZ4 (d := d) (g := g0) (us := us0) (u := u) a
        have k2 := B3V (u := u) hab.c hab.u
        exact ⟨by rw [Up.on_sv, Up.on_sv, Bk0], k1.1.trans k2.1, k1.2.trans k2.2⟩
      obtain ⟨q1, q2⟩ := A1x r us _ _ _ _ e1 e2 hal
      refine ⟨q1, ?_⟩
      rcases q2 with ⟨hc, q2⟩ | ⟨hc, q2⟩
      · refine .inl ⟨hc, ?_⟩
        show ((((g1.up (Up.soften d g0 us0 u)).ups (us.map (Up.soften d g0 us0)))) r).s = _
        rw [q2]
        cases u with
        | put s v =>
          have hs : r = s := hr
          subst hs
          have e : Up.soften d g0 us0 (.put r v) = .mod r v := Ak hc
          rw [e]; rfl
        | mod s v => simp only [Up.soften, Up.on]
        | pub s v => simp only [Up.soften, Up.on]
      · refine .inr ⟨hc, fun hab => ?_⟩
        subst hab
        refine q2 ?_
        cases u with
        | put s v =>
          have hs : r = s := hr
          subst hs
          have e : Up.soften d g0 us0 (.put r v) = .put r v := Ao (fun h => absurd (h.symm.trans hc) (by decide))
          rw [e]
        | mod s v => rfl
        | pub s v => rfl
    · have e1 : (g1.up (Up.soften d g0 us0 u)) r = a := by rw [A1i, A06, Ao hr, h1]
      have e2 : (g2.up u) r = b := by rw [A1i, Ao hr, h2]
      exact A1x r us _ _ _ _ e1 e2 hab
theorem A9J {d:Nat}:∀ (us:List Up) (g:yL),us.any (A32 d)=true→(g d).s < ((g.ups us) d).s
 | [],_,h=>by cases h
 | u :: us,g,h=>by
  rw[Bc,AZ] at h
  show _ < (((g.up u).ups us) d).s
  by_cases hu:A32 d u=true
  ·have hm:=(A0J us (g.up u) d).2.1
   cases u with
   | put r v=>
    have hr:d=r:=At hu
    subst hr
    rw[A1i,Ak (show d=Up.slot (.put d v) from rfl)] at hm
    have:(Up.on (.put d v) (g d)).s=(g d).s+1:=rfl
    omega
   | mod r v=>cases hu
   | pub r v=>cases hu
  ·have:=A9J us (g.up u) (h.resolve_left hu)
   have h2:(g d).s≤((g.up u) d).s:=(A0J [u] g d).2.1
   omega
theorem A3N {d:Nat}:∀ (us:List Up) (g:yL),us.all (fun u=>!u.v.refs)=true→us.any (A32 d)=true→((g.ups us) d).sv.refs=false
 | [],_,_,h=>by cases h
 | u :: us,g,h1,h2=>by
  rw[Bd,Ac] at h1
  by_cases h3:us.any (A32 d)=true
  ·exact A3N us _ h1.2 h3
  ·rw[Bc,AZ] at h2
   have h4:=h2.resolve_right h3
   cases hq:(((g.up u).ups us) d).sv.refs with
   | false=>exact hq
   | true=>
    have h5:=A3u us (g.up u) d h1.2 hq
    rw[h5,A1i] at hq
    have h6:d=u.slot:=by
     cases u with
     | put r v=>exact At h4
     | mod r v=>cases h4
     | pub r v=>cases h4
    rw[Ak h6,Up.on_sv] at hq
    rw[hq] at h1
    exact absurd h1.1 (by decide)
theorem Br3 {t:Ty} {x y:t.D} {p:List PS} (h:bB p=true) (hi:inB p t x):inB p t y:=by
 cases p with
 | nil=>simp[inB]
 | cons s p=>
  cases s<;>simp only[bB,Bf,Aq] at h
  cases t<;>first|(simp only[inB] at hi ⊢;exact Ai0 h hi)| (simp[inB] at hi)
theorem Rel.softs {d:Option Nat} {us:List Up} (hb:Rel H N g V w S β) (hs:Sub gv g) (ha:Rel H N (g.ups us) V' w' S' β') (hV:∀ r,d≠some r→V' r=V r):Rel H N (g.ups (Go.Rf.softs d gv us)) V' w' S' β':=by
 unfold Go.Rf.softs
 split
 ·rename_i hcond
  rw[Ac] at hcond
  obtain⟨hrefs,hput⟩:=hcond
  have key:=fun r=>A1x (d:=d) (g0:=gv) (us0:=us) r us (g r) (g r) g g rfl rfl ⟨rfl,rfl,rfl⟩
  have mono:=A0J us g
  refine⟨ha.sane,fun j=>?_⟩
  have hold:=ha.slots j
  have hbef:=hb.slots j
  have hal:=(key j).1
  rw[hal.sv]
  have hsv:=A3u us g j hrefs
  have hjd:((g.ups us) j).sv.refs=true→d≠some j:=fun h e=>by
   subst e
   rw[A3N us g hrefs hput] at h
   cases h
  have hrd:∀ r s,s≤(g r).s→((g.ups (us.map (Up.soften d gv us))) r).s=s→(g r).s=s∧d≠some r:=fun r s h1 h2=>by
   rcases (key r).2 with ⟨hc,q⟩| ⟨hc,q⟩
   ·refine⟨by omega,fun e=>?_⟩
    subst e
    simp[B1e] at hc
   ·have:=q rfl
    rw[this] at h2
    have:=(mono r).2.1
    refine⟨by omega,fun e=>?_⟩
    subst e
    have:=A9J us g hput
    omega
  generalize hx:((g.ups us) j).sv=x at hold hsv
  cases x with
  | dead=>exact hold
  | nils=>exact hold
  | und=>exact hold
  | unk=>exact hold
  | dat d=>exact hold
  | tup d=>exact hold
  | adr r p c s=>
   rw[← hsv rfl] at hbef
   obtain⟨a1,a2,a3,a4⟩:=hold
   obtain⟨b1,b2,b3,b4⟩:=hbef
   refine⟨a1,by rw[(key r).1.c];exact a2,?_,fun hok=>?_⟩
   ·rcases (key r).2 with ⟨hc,q⟩| ⟨hc,q⟩
    ·omega
    ·rw[q rfl];exact a3
   ·obtain⟨h1,h2⟩:=AA7.1 hok
    obtain⟨h3,hd⟩:=hrd r s b3 h1
    rcases (key r).2 with ⟨hc,q⟩| ⟨hc,q⟩
    ·rw[(key r).1.c] at h2
     have hbx:bB p=true∨(g r).c=c:=h2.imp id fun e=>by have:=(mono r).1;omega
     by_cases hcc:((g.ups us) r).c=(g r).c
     ·
      have hse:=(mono r).2.2 hcc
      have:=a4 (AA7.2 ⟨by omega,h2⟩)
      intro dr hdr
      rw[(key r).1.sv] at hdr
      exact this dr hdr
     ·have hbx:bB p=true:=by
       rcases h2 with h2|h2
       ·exact h2
       ·have:=(mono r).1;omega
      have hA:=b4 (AA7.2 ⟨h3,.inl hbx⟩)
      intro dr hdr
      rw[(key r).1.sv] at hdr
      rw[Ac] at hc
      have hst:=hc.2
      unfold BH3 at hst
      have hgr:∀ d0,(gv r).sv=.dat d0→(g r).sv=.dat d0:=fun d0 h=>by
       rcases hs r with h'|h'
       ·rw[h'] at h;cases h
       ·rw[h'];exact h
      have hgu:∀ d0,((gv.ups us) r).sv=.dat d0→(gv r).sv≠.dead→((g.ups us) r).sv=.dat d0:=fun d0 h hn=>by
       have:∀ (us:List Up) (g1 g2:yL),g1 r=g2 r→(g1.ups us) r=(g2.ups us) r:=fun us=>by
        induction us with
        | nil=>exact fun _ _ h=>h
        | cons u us ih=>exact fun g1 g2 h=>ih _ _ (by rw[A1i,A1i,h])
       rcases hs r with h'|h'
       ·exact absurd h' hn
       ·rw[this us g gv h'];exact h
      split at hst
      ·rename_i da db e1 e2
       have ht:da.t=db.t:=of_decide_eq_true hst
       have e3:=hgu db e2 (by rw[e1];simp)
       rw[e3] at hdr
       obtain rfl:=SV.dat.inj hdr
       obtain⟨cr,t,b,o,v1,v2,v3,v4,v5,v6⟩:=hA da (hgr da e1)
       refine⟨cr,t,b,o,?_,?_,?_,?_,?_,fun h=>?_⟩
       ·rw[hV r hd,← ht];exact v1
       ·rw[← ht];exact v2
       ·rw[← ht,AV7 (w':=w) hbx];exact v3
       ·have hj:d≠some j:=hjd (by rw[hx];rfl)
        rw[hV j hj];exact v4
       ·have hcast:∀ (t t':Ty) (h:t=t') (x:t.D) (y:t'.D),inB p t x→inB p t' y:=fun t t' h x y hi=>by
         subst h;exact Br3 hbx hi
        exact hcast _ _ ht _ _ v5
       ·rw[hbx] at h;cases h
      ·cases hst
    ·have e:=q rfl
     have:=a4 (AA7.2 ⟨by rw[← h1,e],by rw[← e];exact h2⟩)
     intro dr hdr
     rw[(key r).1.sv] at hdr
     exact this dr hdr
  | als r p c s=>
   rw[← hsv rfl] at hbef
   obtain⟨a1,a2,a3,a4⟩:=hold
   obtain⟨b1,b2,b3,b4⟩:=hbef
   refine⟨a1,by rw[(key r).1.c];exact a2,?_,fun hok=>?_⟩
   ·rcases (key r).2 with ⟨hc,q⟩| ⟨hc,q⟩
    ·omega
    ·rw[q rfl];exact a3
   ·obtain⟨h2,h1⟩:=AL3.1 hok
    obtain⟨h3,hd⟩:=hrd r s b3 h1
    rw[(key r).1.c] at h2
    have hse:=(mono r).2.2 (by have:=(mono r).1;omega)
    have:=a4 (AL3.2 ⟨h2,by omega⟩)
    intro dr hdr
    rw[(key r).1.sv] at hdr
    exact this dr hdr
  | pend r p c s u d'=>
   rw[← hsv rfl] at hbef
   obtain⟨a1,a2,a3,a5,a4⟩:=hold
   obtain⟨b1,b2,b3,b5,b4⟩:=hbef
   refine⟨a1,by rw[(key r).1.c];exact a2,?_,by rw[(key r).1.u];exact a5,fun hok=>?_⟩
   ·rcases (key r).2 with ⟨hc,q⟩| ⟨hc,q⟩
    ·omega
    ·rw[q rfl];exact a3
   ·obtain⟨⟨h2,h1⟩,h6⟩:=Ap3.1 hok
    obtain⟨h3,hd⟩:=hrd r s b3 h1
    rw[(key r).1.c] at h2
    rw[(key r).1.u] at h6
    have hse:=(mono r).2.2 (by have:=(mono r).1;omega)
    have:=a4 (Ap3.2 ⟨⟨h2,by omega⟩,h6⟩)
    intro dr hdr
    rw[(key r).1.sv] at hdr
    exact this dr hdr
  | clo h rs=>
   rw[← hsv rfl] at hbef
   obtain⟨a1,a2⟩:=hold
   obtain⟨b1,b2⟩:=hbef
   refine⟨fun x hx=>⟨(a1 x hx).1,?_⟩,fun hall=>?_⟩
   ·have:=(b1 x hx).2
    rcases (key x.1).2 with ⟨hc,q⟩| ⟨hc,q⟩
    ·omega
    ·rw[q rfl];exact (a1 x hx).2
   ·have hh:=fun x hx=>hrd x.1 x.2 (b1 x hx).2 (hall x hx)
    intro vs hvs
    have hm:rs.map (fun x=>V' x.1)=rs.map (fun x=>V x.1):=List.map_congr_left fun x hx=>hV _ (hh x hx).2
    rw[hV j (hjd (by rw[hx];rfl))]
    exact b2 (fun x hx=>(hh x hx).1) vs (by rw[← hm];exact hvs)
 ·exact ha
theorem A57 {R:Run E} {c:Call} {f:FuncId} (hR:A2U E R) (hc:Ctx E.P H S β a w o g) (hs:Sub gv g) (hm:o.op=.call c) (hcal:c.callee=.value (.func f))
  (hk:Ad2 E R gv o f c.args.toList some=some us) (K:Act→World→Prop) (Q:Exit→Act→World→Prop)
  (hK:∀ a' w' S' β',a'.tmps.size=a.tmps.size→a'.defers=a.defers→(∀ r,o.dst≠some r→vals a' r=vals a r)→Rel H a.tmps.size (g.ups us) (vals a') w' S' β'→Step w S β w' S' β'→K a' w'):o.wp E.P a w K Q:=by
 unfold Ad2 at hk
 split at hk
 ·rename_i p hp
  split at hk
  ·rename_i ds lent hd
   split at hk
   ·rename_i hcond
    obtain⟨x,hx,hk⟩:=Ae.1 hk
    simp only[Ac,AZ,Aq,List.isEmpty_iff] at hcond
    obtain⟨⟨hsh,hrf⟩,hnd⟩:=hcond
    have hgv:yW a.tmps.size gv:=fun i hi=>by
     rcases hs i with h|h
     ·exact h
     ·rw[← h];exact hc.dead i hi
    obtain⟨G',V',S1,β1,r1,r2,r3,r4,r5,r6,r7,r8,r9⟩:=Aj1 (V0:=vals a) (k:=0) hc.rel hs hgv (fun i hi=>hc.dead i (by omega)) (fun _ _=>rfl) hp
    have hks:∀ j,0≤j→At5 (E.cfg f).modes p.ios 0 j=At5 (E.cfg f).modes p.ios 0 j:=fun _ _=>rfl
    obtain⟨cs,q1,q2,q3,q4⟩:=cA (ks:=At5 (E.cfg f).modes p.ios 0) r1 r3 r4 (fun i hi=>r6 i (by omega)) r8 hks hd
    have q4:=q4 lent (fun _ h=>h)
    split at hk
    ·rename_i rv usb hrv hbk
     have hargs:(yP ds cs).toArray=c.args.map a.eval:=by
      have:=A1W q1
      apply Br.1
      rw[← this];simp
     refine BO4 (Bc8 hm hcal rfl) ?_
     rw[← hargs]
     refine (hR f ds x hx w _ _ cs (A6p r1.sane q2) q4).mono fun v w2 ⟨S2,β2,crs,s1,s2,s3,s4,s5⟩=>?_
     obtain⟨S'',hS1,hS2⟩:∃ S'':Nat→Prop,((S''=S2∧lent=[])∨S''=S1)∧((∀ b,S2 b→S'' b)∨(oB (As7 (E.cfg f).nres (E.cfg f).rt) (A1d (E.cfg f).nres (E.cfg f).rf)=true∧bE (E.cfg f).modes=true)):=by
      rcases hsh with h|h
      ·refine⟨S1,.inr rfl,.inr ?_⟩
       simpa[BY6] using h
      ·exact⟨S2,.inl ⟨rfl,h⟩,.inl fun _ h=>h⟩
     have hio:∀ j j' m m',AB0 (E.cfg f).modes p.ios 0 j=some m→AB0 (E.cfg f).modes p.ios 0 j'=some m'→m.1=m'.1→j=j':=fun _ _ _ _=>A0E
     have hioks:∀ j m,AB0 (E.cfg f).modes p.ios 0 j=some m→At5 (E.cfg f).modes p.ios 0 m.1=m.2:=fun _ _=>A3x
     obtain⟨sane2,step2⟩:=BY3 (N:=a.tmps.size) (one:=Ap (E.cfg f).nres 1) (dst:=o.dst) hio hioks r1.sane s1 s2 hS1
     have stepA:=r2.trans step2
     have hsame:=s2.same (A6p r1.sane q2)
     have hSame:∀ b,S1 b→S'' b∧w2.heap[b]?=w.heap[b]?:=fun b hb=>⟨step2.keepS b hb,(hsame b (.inl hb)).2⟩
     have hkl:=Br2 (N:=a.tmps.size) q3.lt
     have hdead:yW a.tmps.size ((g.ups p.ups).ups (kills p.ios)):=(hc.dead.ups r9).ups hkl
     have rel1:Rel H a.tmps.size ((g.ups p.ups).ups (kills p.ios)) (vals a) w S1 β1:=
      (r1.fin (g':=g.ups p.ups) (V':=vals a) (fun i hi=>(r5 i hi).symm) (hc.dead.ups r9) (fun i hi=>(r6 i (by omega)).symm)).kills
     have hfar:∀ j s κ b,j < a.tmps.size→Was a.tmps.size (AB0 (E.cfg f).modes p.ios 0) j s κ→β1 κ=some b→w2.heap[b]?=w.heap[b]?:=fun j s κ b hj hw hb=>s2.old b (r1.sane.live _ _ hb) fun k hk=>by
      cases k with
      | nil=>simp[Af4] at hk
      | cons i s'=>
       have:=r1.sane.inj _ _ _ hb hk
       rcases hw with ⟨_,rfl⟩| ⟨m,hm',hst,rfl⟩
       ·simp only[Af] at this;omega
       ·simp only[Af] at this
        have hi:i=m.1:=by omega
        subst hi
        rw[hioks j m hm'] at this
        exact aK hst _ this.2
     have hβ:∀ j s b,o.dst≠some j→(((g.ups p.ups).ups (kills p.ios)) j).sv≠.dead→β1 (j :: s)=some b→Aq4 a.tmps.size (Ap (E.cfg f).nres 1) o.dst (AB0 (E.cfg f).modes p.ios 0) β1 β2 (j :: s)=some b∧w2.heap[b]?=w.heap[b]?:=by
      intro j s b hj ha hb
      have hjN:=hdead.lt ha
      have hio0:AB0 (E.cfg f).modes p.ios 0 j=none:=by
       cases hq:AB0 (E.cfg f).modes p.ios 0 j with
       | none=>rfl
       | some m=>exact absurd (A2d j (AM0 hq)) ha
      refine⟨?_,hfar j s _ b hjN (.inl ⟨hio0,rfl⟩) hb⟩
      simp only[Aq4]
      rw[Ao (by omega)]
      unfold Bi5
      rw[Ao hj,hio0]
      simp only[Option.bind_none]
      rw[Ao hj];exact hb
     have hβio:∀ j m,o.dst≠some j→AB0 (E.cfg f).modes p.ios 0 j=some m→(∀ s b,β2 ((2 * m.1+1) :: s)=some b→Aq4 a.tmps.size (Ap (E.cfg f).nres 1) o.dst (AB0 (E.cfg f).modes p.ios 0) β1 β2 (j :: (m.2++s))=some b) ∧
       ∀ s b,¬ m.2 <+: s→β1 ((a.tmps.size+m.1) :: s)=some b→Aq4 a.tmps.size (Ap (E.cfg f).nres 1) o.dst (AB0 (E.cfg f).modes p.ios 0) β1 β2 (j :: s)=some b∧w2.heap[b]?=w.heap[b]?:=by
      intro j m hj hm'
      have hjN:j < a.tmps.size:=by
       obtain⟨o',ho',e⟩:=Au.1 (AM0 hm')
       rw[← e];exact q3.lt o' ho'
      refine⟨fun s b hb=>?_,fun s b hs hb=>?_⟩
      ·simp only[Aq4]
       rw[Ao (Nat.not_le.2 hjN)]
       unfold Bi5
       rw[Ao hj,hm']
       simp only[AV,A58,AL]
       exact hb
      ·have hst:pX m.2 s=none:=by
        cases hq:pX m.2 s with
        | none=>rfl
        | some s'=>exact absurd ⟨s',(jX.1 hq).symm⟩ hs
       refine⟨?_,hfar j s _ b hjN (.inr ⟨m,hm',hst,rfl⟩) hb⟩
       simp only[Aq4]
       rw[Ao (Nat.not_le.2 hjN)]
       unfold Bi5
       rw[Ao hj,hm']
       simp only[AV,hst,Option.map_none]
       rw[Ao hj];exact hb
     have hcl:(∀ b,S2 b→S'' b)∨bE (E.cfg f).modes=true:=hS2.imp id (·.2)
     split at hk
     ·rename_i d hdst
      split at hk
      ·cases hk
      ·rename_i hany
       simp only[Aa] at hk
       subst hk
       have hdN:=wP hc.opIn hdst
       have hne:∀ r ∈ p.ios.map Io.r,r≠d:=fun r hr e=>hany (by
        subst e
        obtain⟨y,hy,e⟩:=Au.1 hr
        exact A8.2 ⟨y,hy,by rw[e];exact Nat.beq_refl r⟩)
       refine hK _ _ _ _ uD xL (fun r hr=>by rw[hdst,tG hdN];rw[hdst] at hr;unfold upd;rw[Ao (fun e=>hr (by rw[e]))]) ?_ stepA
       rw[hdst,tG hdN,xS,xS]
       show Rel H a.tmps.size ((((g.ups p.ups).ups (kills p.ios)).up (.put d rv)).ups usb) _ w2 S'' _
       have hβd:∀ s b,(if Ap (E.cfg f).nres 1=true then some (0 :: s) else pM 0 s).bind β2=some b→Aq4 a.tmps.size (Ap (E.cfg f).nres 1) o.dst (AB0 (E.cfg f).modes p.ios 0) β1 β2 (d :: s)=some b:=fun s b hb=>by
        simp only[Aq4]
        rw[Ao (by omega)]
        unfold Bi5
        rw[Ak hdst]
        obtain⟨q,hq,hb⟩:=Ae.1 hb
        rw[hq];exact hb
       have rel2:Rel H a.tmps.size (((g.ups p.ups).ups (kills p.ios)).up (.put d rv)) (upd (vals a) d v) w2 S'' _:=
        rel1.put sane2 hSame (fun j s b hj=>hβ j s b (fun e=>hj (by rw[hdst] at e;exact (Av e).symm))) (fun j hj=>by simp[upd,hj]) (by
         rw[s4];exact A7W hrv s3 hrf (hS2.imp id (·.1)) hβd)
       rw[hdst] at rel2 hβio
       refine aS (i:=0) (V0:=vals a) hSame hbk s5 q3 hnd (fun r hr=>?_) (fun j m hj=>hβio j m (fun e=>?_) hj) hcl rel2
       ·simp[upd,hne r hr]
       ·exact hne j (AM0 hj) (Av e).symm
     ·rename_i hdst
      simp only[Aa] at hk
      subst hk
      refine hK _ _ _ _ uD xL (fun r _=>by rw[hdst];rfl) ?_ stepA
      rw[hdst,xS,xS]
      show Rel H a.tmps.size (((g.ups p.ups).ups (kills p.ios)).ups usb) (vals a) w2 S'' _
      have rel2:Rel H a.tmps.size (((g.ups p.ups).ups (kills p.ios)).up (.put a.tmps.size .dead)) (vals a) w2 S'' _:=
       rel1.put sane2 hSame (fun j s b _=>hβ j s b (by rw[hdst];simp)) (fun _ _=>rfl) trivial
      have rel3:Rel H a.tmps.size ((g.ups p.ups).ups (kills p.ios)) (vals a) w2 S'' _:=rel2.fin (fun i hi=>(nJ (by omega)).symm) hdead (fun _ _=>rfl)
      rw[hdst] at rel3 hβio
      exact aS (i:=0) (V0:=vals a) hSame hbk s5 q3 hnd (fun r hr=>rfl) (fun j m hj=>hβio j m (by simp) hj) hcl rel3
    ·cases hk
   ·cases hk
  ·cases hk
 ·cases hk
theorem A7d {R:Run E} {c:Call} {f:FuncId} (hR:A2U E R) (hc:Ctx E.P H S β a w o g) (hs:Sub gv g) (hm:o.op=.call c) (hcal:c.callee=.value (.func f))
  (hk:Az3 E R gv o f c.args.toList some=some us):yY E.P H S β a w o (g.ups us):=by
 unfold Az3 at hk
 rw[AA0] at hk
 obtain⟨us0,h0,h1⟩:=Ae.1 hk
 obtain rfl:=Av h1
 intro K Q hK
 exact A57 hR hc hs hm hcal h0 K Q fun a' w' S' β' e1 e2 e3 e4 e5=>hK a' w' S' β' e1 e2 (hc.rel.softs hs e4 e3) e5
end
end Go.Rf

end
section
namespace Go.Rf
set_option linter.unusedSectionVars false
variable [T:Laid]
section
variable {P:Program} {H:Nat→Option (List Value)} {N:Nat} {g g' G σ:yL} {V V' V0:Nat→Option Value} {w w' w2:World} {S S' S2:Nat→Prop} {β β' β2:Key→Option Nat} {a:Act} {o:Oper}
variable {E:Env} {gv:yL} {us:List Up}
def AP3 (S:Nat→Prop) (w:World):List Dyn→List (List Value)→Prop
 | [],[]=>True
 | d :: ds,c :: cs=>Rd S w d.t d.x c∧AP3 S w ds cs
 | _,_=>False
theorem BU9:∀ {ms:List Mode} {ds:List Dyn} {cs:List (List Value)} {i:Nat},A2O ms ds=true→AP3 S w ds cs→tM S β w ms ds cs i
 | [],[],[],_,_,_=>by simp[tM]
 | .ro t :: ms,d :: ds,c :: cs,i,h,k=>by
  simp only[A2O,Ac,A6] at h
  simp only[AP3] at k
  exact⟨h.1,k.1,BU9 h.2 k.2⟩
 | [],[],_ :: _,_,_,k=>by simp[AP3] at k
 | [],_ :: _,_,_,h,_=>by simp[A2O] at h
 | _ :: _,[],_,_,h,_=>by simp[A2O] at h
 | _ :: _,_ :: _,[],_,_,k=>by simp[AP3] at k
 | .mv _ _ :: _,_ :: _,_,_,h,_=>by simp[A2O] at h
 | .io _ _ _ _ _ :: _,_ :: _,_,_,h,_=>by simp[A2O] at h
theorem Av9:∀ {ds ds':List Dyn} {cs cs':List (List Value)},AP3 S w ds cs→AP3 S w ds' cs'→AP3 S w (ds++ds') (cs++cs')∧yP (ds++ds') (cs++cs')=yP ds cs++yP ds' cs'
 | [],_,[],_,_,h=>⟨h,by simp[yP]⟩
 | d :: ds,ds',c :: cs,cs',h,h'=>by
  simp only[AP3] at h
  obtain⟨q1,q2⟩:=Av9 h.2 h'
  exact⟨⟨h.1,q1⟩,by simp only[Aj,yP,q2]⟩
 | [],_,_ :: _,_,h,_=>by simp[AP3] at h
 | _ :: _,_,[],_,h,_=>by simp[AP3] at h
theorem A4o:∀ {cs:FCaps} {l:List Value},kX S w cs l→∃ c,AP3 S w (aR cs) c∧yP (aR cs) c=l
 | .nil,l,h=>by simp only[kX] at h;subst h;exact⟨[],by simp[aR,AP3],by simp[aR,yP]⟩
 | .int k n r,l,h=>by
  simp only[kX] at h
  obtain⟨b,l',rfl,h1,h2,h3⟩:=h
  obtain⟨c,q1,q2⟩:=A4o h3
  refine⟨[.pointer (some ⟨b,0,none⟩)] :: c,⟨?_,q1⟩,by simp only[aR,yP,q2];rfl⟩
  simp only[Rd]
  exact⟨b,_,rfl,h1,h2,rfl,rfl⟩
 | .fn v r,l,h=>by
  simp only[kX] at h
  obtain⟨b,u,l',rfl,h1,h2,h3,h4⟩:=h
  obtain⟨c,q1,q2⟩:=A4o h4
  refine⟨[.pointer (some ⟨b,0,none⟩)] :: c,⟨?_,q1⟩,by simp only[aR,yP,q2];rfl⟩
  simp only[Rd]
  exact⟨b,_,rfl,h1,h2,rfl,u,rfl,h3⟩
theorem Aw0:∀ {ts:List (Option Ty)} {xs:List Operand} {ds:List Dyn},Rel H N g V w S β→AD2 g ts xs=some ds→∃ cs,AP3 (A6s S β) w ds cs∧xs.map (evl V ·)=(yP ds cs).map some
 | [],[],ds,_,h=>by simp only[AD2,Aa] at h;subst h;exact⟨[],by simp[AP3],by simp[yP]⟩
 | some t :: ts,x :: xs,ds,hr,h=>by
  simp only[AD2] at h
  split at h
  ·rename_i d hd
   split at h
   ·obtain⟨ds',h',rfl⟩:=Ad.1 h
    obtain⟨cs,q1,q2⟩:=Aw0 hr h'
    obtain⟨c,e1,e2⟩:=pG hr hd
    exact⟨c :: cs,⟨e2,q1⟩,by simp only[Ai,yP,q2,e1]⟩
   ·cases h
  ·cases h
 | [],_ :: _,_,_,h=>by simp[AD2] at h
 | none :: _,_,_,_,h=>by simp[AD2] at h
 | some _ :: _,[],_,_,h=>by simp[AD2] at h
theorem A03 (hs:Sub gv g):∀ {ts:List (Option Ty)} {xs:List Operand} {ds:List Dyn},AD2 gv ts xs=some ds→AD2 g ts xs=some ds
 | [],[],ds,h=>h
 | some t :: ts,x :: xs,ds,h=>by
  simp only[AD2] at h ⊢
  split at h
  ·rename_i d hd
   rw[rL hs hd]
   simp only
   split at h
   ·rename_i hc
    rw[Ak hc]
    obtain⟨ds',h',rfl⟩:=Ad.1 h
    rw[A03 hs h'];rfl
   ·cases h
  ·cases h
 | [],_ :: _,_,h=>by simp[AD2] at h
 | none :: _,_,_,h=>by simp[AD2] at h
 | some _ :: _,[],_,h=>by simp[AD2] at h
theorem BE7 {ρ:Operand→Value} {c:Call} {s:Nat} {f:FuncId} {l:List Value} (ho:o.op=.call c) (hcal:c.callee=.value (.tmp s)) (hρ:ρ (.tmp s)=.func (.func f) #[] l.toArray):
  execOp ρ o=callFunc f (c.args.map ρ++l.toArray):=by
 unfold execOp
 simp[ho,resolve,hcal,Bq,invoke,hρ]
theorem BK1 {τ t:Ty} (h:t=.pair τ .unit) {f:Fl} {x:t.D} {crs:List (List Value)} (hr:mQ S β w 1 0 t f x crs) (hf:f.l.whole=true) (hc:oB τ .sh=true):
  ∃ c,Rd S' w τ ((cast (congrArg Ty.D h) x:(Ty.pair τ .unit).D)).1 c∧At6 (iH 1 t crs)=yK τ c:=by
 subst h
 match crs,hr with
 | [c],hr=>
  simp only[mQ] at hr
  exact⟨c,AI8 (AA1 hc) (uX (S':=fun _=>True) hf (fun _ _=>trivial) (fun _ _ _=>trivial) hr.1),rfl⟩
 | [],hr=>simp[mQ] at hr
 | _ :: _ :: _,hr=>simp[mQ] at hr
theorem A5J {R:Run E} {c:Call} {s:Nat} {v:FnVal} {ff:Fl} (hR:A2U E R) (hc:Ctx E.P H S β a w o g) (hs:Sub gv g) (hm:o.op=.call c) (hcal:c.callee=.value (.tmp s))
  (hd:xJ gv (gv s).sv=some ⟨.fn,v,ff⟩) (hk:AN9 E R gv o v c.args.toList c.argTypes.toList some=some us):yY E.P H S β a w o (g.ups us):=by
 unfold AN9 at hk
 split at hk
 ·rename_i ds τ h1 h2
  split at hk
  ·rename_i hcl
   obtain⟨y,hy,hk⟩:=Ae.1 hk
   obtain⟨d,hdst,rfl⟩:=xA hk
   have hdN:=wP hc.opIn hdst
   unfold BF5 at hy
   split at hy
   ·cases hy
   ·rename_i f caps
    split at hy
    ·rename_i hrt
     split at hy
     ·rename_i hcond
      simp only[Ac] at hcond
      obtain⟨⟨hn,hros⟩,hwh⟩:=hcond
      obtain⟨x,hx,rfl⟩:=Ad.1 hy
      have hn1:(E.cfg f).nres=1:=At hn
      obtain⟨cf,hcf,hrd⟩:=pG (x:=.tmp s) hc.rel (rL (x:=.tmp s) hs hd)
      simp only[Rd] at hrd
      obtain⟨u,rfl,hfn⟩:=hrd
      simp only[A6c] at hfn
      obtain⟨l,rfl,hcaps⟩:=hfn
      obtain⟨cc,k1,k2⟩:=A4o hcaps
      obtain⟨cs,q1,q2⟩:=Aw0 hc.rel (A03 hs h1)
      obtain⟨j1,j2⟩:=Av9 q1 k1
      have he:=BE7 (o:=o) (l:=l) hm hcal (zP hcf)
      intro K Q hK
      refine BO4 he ?_
      have hargs:(yP (ds++aR caps) (cs++cc)).toArray=c.args.map a.eval++l.toArray:=by
       apply Br.1
       rw[j2,k2]
       have:=A1W q2
       simp[← this]
      rw[← hargs]
      have hseen:∀ b,A6s S β b→b < w.heap.size:=fun b hb=>by
       rcases hb with hb|⟨k,hb⟩
       ·exact hc.rel.sane.liveS b hb
       ·exact hc.rel.sane.live k b hb
      refine (hR f _ x hx w (A6s S β) (fun _=>none) _ ⟨fun _ _ _ h=>by simp at h,fun _ _ h=>by simp at h,fun _ _ h=>by simp at h,hseen,hc.rel.sane.tabs fun b hb=>⟨.inl hb,rfl⟩⟩ (BU9 hros j1)).mono
       fun v w2 ⟨S2,β2,crs,s1,s2,s3,s4,s5⟩=>?_
      have heap:∀ b,b < w.heap.size→w2.heap[b]?=w.heap[b]?:=fun b hb=>s2.old b hb (fun k=>by simp)
      have hsane:Sane w2 S β:=⟨hc.rel.sane.inj,hc.rel.sane.sep,fun k b h=>AC (hc.rel.sane.live k b h) s2.size,fun b h=>AC (hc.rel.sane.liveS b h) s2.size,hc.rel.sane.tabs fun b hb=>⟨hb,heap b (hc.rel.sane.liveS b hb)⟩⟩
      have hstep:Step w S β w2 S β:=⟨s2.size,fun b hb _=>heap b hb,fun k b h=>.inl ⟨k,h⟩,fun _ h=>h,fun _ h=>.inl h,s2.out⟩
      refine hK _ _ _ _ uD xL ?_ hstep
      rw[hdst,tG hdN]
      rw[hn1] at s3 s4
      obtain⟨c,hrd,hval⟩:=BK1 (S':=S) hrt s3 hwh hcl
      exact hc.rel.put hsane (fun b hb=>⟨hb,heap b (hc.rel.sane.liveS b hb)⟩) (fun j s b _ _ hb=>⟨hb,heap b (hc.rel.sane.live _ _ hb)⟩) (fun j hj=>by simp[upd,hj])
       (A0f hrd (s4.trans hval))
     ·cases hy
    ·cases hy
  ·cases hk
 ·cases hk
theorem Bq9 {R:Run E} (hR:A2U E R):Ag4 E R:=by
 intro H S β a w o g gv us hc hs
 exact⟨fun c f hm hcal hk=>A7d hR hc hs hm hcal hk,fun c s v f hm hcal hd hk=>A5J hR hc hs hm hcal hd hk⟩
end
end Go.Rf

end
section
namespace Go.Rf
set_option linter.unusedSectionVars false
variable [T:Laid]
section
variable {P:Program} {H:Nat→Option (List Value)} {N:Nat} {g g' G σ:yL} {V V' V0:Nat→Option Value} {w w' w2:World} {S S' S2:Nat→Prop} {β β' β2:Key→Option Nat} {a:Act} {o:Oper}
variable {E:Env} {gv:yL} {us:List Up}
structure Ent where
 m:Nat
 slot:Nat
 path:Key
 t:Ty
 f:Fl
def Ent.key (e:Ent):Key:=e.slot :: e.path
def B0e (L:List Ent) (β:Key→Option Nat) (k:Key) (b:Nat):Prop:=∃ e ∈ L,∃ s,k=e.m :: s∧oA e.t e.f s=true∧β (e.key++s)=some b
open Classical in
noncomputable def A6X (L:List Ent) (β:Key→Option Nat) (k:Key):Option Nat:=if h:∃ b,B0e L β k b then some h.choose else none
def B0X (L:List Ent) (S:Nat→Prop) (β:Key→Option Nat):Nat→Prop:=fun b=>S b∨((∃ k,β k=some b)∧¬ ∃ k,A6X L β k=some b)
structure Apart (L:List Ent):Prop where
 m:∀ e ∈ L,∀ e' ∈ L,e.m=e'.m→e=e'
 slot:∀ e ∈ L,∀ e' ∈ L,e.slot=e'.slot→e=e'
theorem aE {L:List Ent} {k:Key} {b:Nat} (h:A6X L β k=some b):B0e L β k b:=by
 unfold A6X at h
 split at h
 ·rename_i hb
  simp only[Aa] at h;rw[← h];exact hb.choose_spec
 ·cases h
theorem Bp3 {L:List Ent} (hL:Apart L) {e:Ent} (he:e ∈ L) {s:Key} {b:Nat} (ho:oA e.t e.f s=true) (hb:β (e.key++s)=some b):A6X L β (e.m :: s)=some b:=by
 have hx:∃ b,B0e L β (e.m :: s) b:=⟨b,e,he,s,rfl,ho,hb⟩
 unfold A6X
 rw[dif_pos hx]
 obtain⟨e',he',s',h1,h2,h3⟩:=hx.choose_spec
 simp only[Af] at h1
 have:=hL.m e he e' he' h1.1
 subst this
 rw[← h1.2,hb] at h3
 exact h3.symm
theorem B1M {L:List Ent} (hL:Apart L) (hs:Sane w S β):Sane w (B0X L S β) (A6X L β)∧Step w S β w (B0X L S β) (A6X L β) ∧
  ∀ e ∈ L,∀ f0 (x:e.t.D) c,zX S β H w e.key e.t f0 x c→Fl.le e.f f0=true→zX (B0X L S β) (A6X L β) H w [e.m] e.t e.f x c:=by
 refine⟨⟨fun k k' b h h'=>?_,fun k b h hb=>?_,fun k b h=>?_,fun b hb=>?_,hs.tabs fun b hb=>⟨.inl hb,rfl⟩⟩,⟨Al _,fun _ _ _=>rfl,fun k b h=>?_,fun b hb=>.inl hb,fun b hb=>?_,.rfl'⟩,fun e he f0 x c hv hle=>?_⟩
 ·obtain⟨e,he,s,rfl,_,h1⟩:=aE h
  obtain⟨e',he',s',rfl,_,h1'⟩:=aE h'
  have:=hs.inj _ _ _ h1 h1'
  simp only[Ent.key,Aj,Af] at this
  have e2:=hL.slot e he e' he' this.1
  subst e2
  rw[AD this.2]
 ·obtain⟨e,he,s,rfl,_,h1⟩:=aE h
  rcases hb with hb|⟨_,hb⟩
  ·exact hs.sep _ _ h1 hb
  ·exact hb ⟨_,h⟩
 ·obtain⟨e,he,s,rfl,_,h1⟩:=aE h
  exact hs.live _ _ h1
 ·rcases hb with hb|⟨⟨k,hb⟩,_⟩
  ·exact hs.liveS b hb
  ·exact hs.live _ _ hb
 ·obtain⟨e,he,s,rfl,_,h1⟩:=aE h
  exact .inl ⟨_,h1⟩
 ·rcases hb with hb|⟨hb,_⟩
  ·exact .inl hb
  ·exact .inr (.inl hb)
 ·refine AR2 (fun b hb=>⟨.inl hb,rfl⟩) hle (fun s b hb=>⟨rfl,fun ho=>Bp3 hL he ho hb,fun ho=>?_⟩) hv
  refine .inr ⟨⟨_,hb⟩,fun ⟨k,hk⟩=>?_⟩
  obtain⟨e',he',s',rfl,ho',h1⟩:=aE hk
  have:=hs.inj _ _ _ hb h1
  simp only[Ent.key,Aj,Af] at this
  have e2:=hL.slot e he e' he' this.1
  subst e2
  rw[AD this.2,ho'] at ho;cases ho
def Bc3:ResultVar→Key
 | .tmp _=>[]
 | .cell _ _=>[0]
def oE:List ResultVar→Nat→Ty→Fl→List Ent
 | r :: rs,k,.pair a b,f=>⟨2 * k,Ap9 r,Bc3 r,a,f.l⟩ :: oE rs (k+1) b f.r
 | _,_,_,_=>[]
def oV:List Mode→Nat→List Ent
 | .io t _ fo s p :: ms,i=>⟨2 * i+1,s,wL p,t,fo⟩ :: oV ms (i+1)
 | .ro _ :: ms,i=>oV ms (i+1)
 | .mv _ _ :: ms,i=>oV ms (i+1)
 | [],_=>[]
theorem AS6:∀ {rs:List ResultVar} {k:Nat} {t:Ty} {f:Fl},∀ e ∈ oE rs k t f,∃ j,e.m=2 * j∧k≤j
 | r :: rs,k,.pair a b,f,e,he=>by
  simp only[oE,Ag] at he
  rcases he with rfl|he
  ·exact⟨k,rfl,Al _⟩
  ·obtain⟨j,h1,h2⟩:=AS6 e he;exact⟨j,h1,by omega⟩
 | [],_,_,_,_,he=>by simp[oE] at he
 | _ :: _,_,.int _,_,_,he|_ :: _,_,.bool,_,_,he|_ :: _,_,.str,_,_,he|_ :: _,_,.fn,_,_,he|_ :: _,_,.unit,_,_,he
 | _ :: _,_,.sl _,_,_,he|_ :: _,_,.ptr _,_,_,he|_ :: _,_,.arr _ _,_,_,he=>by simp[oE] at he
theorem A0q:∀ {rs:List ResultVar} {k:Nat} {t:Ty} {f:Fl},∀ e ∈ oE rs k t f,∀ e' ∈ oE rs k t f,e.m=e'.m→e=e'
 | r :: rs,k,.pair a b,f,e,he,e',he',h=>by
  simp only[oE,Ag] at he he'
  rcases he with rfl|he<;>rcases he' with rfl|he'
  ·rfl
  ·obtain⟨j,h1,h2⟩:=AS6 e' he';simp only at h;omega
  ·obtain⟨j,h1,h2⟩:=AS6 e he;simp only at h;omega
  ·exact A0q e he e' he' h
 | [],_,_,_,_,he,_,_,_=>by simp[oE] at he
 | _ :: _,_,.int _,_,_,he,_,_,_|_ :: _,_,.bool,_,_,he,_,_,_|_ :: _,_,.str,_,_,he,_,_,_|_ :: _,_,.fn,_,_,he,_,_,_|_ :: _,_,.unit,_,_,he,_,_,_
 | _ :: _,_,.sl _,_,_,he,_,_,_|_ :: _,_,.ptr _,_,_,he,_,_,_|_ :: _,_,.arr _ _,_,_,he,_,_,_=>by simp[oE] at he
theorem AJ4:∀ {ms:List Mode} {i:Nat},∀ e ∈ oV ms i,∃ j,e.m=2 * j+1∧i≤j
 | .io t _ fo s p :: ms,i,e,he=>by
  simp only[oV,Ag] at he
  rcases he with rfl|he
  ·exact⟨i,rfl,Al _⟩
  ·obtain⟨j,h1,h2⟩:=AJ4 e he;exact⟨j,h1,by omega⟩
 | .ro _ :: ms,i,e,he=>by simp only[oV] at he;obtain⟨j,h1,h2⟩:=AJ4 e he;exact⟨j,h1,by omega⟩
 | .mv _ _ :: ms,i,e,he=>by simp only[oV] at he;obtain⟨j,h1,h2⟩:=AJ4 e he;exact⟨j,h1,by omega⟩
 | [],_,_,he=>by simp[oV] at he
theorem AV1:∀ {ms:List Mode} {i:Nat},∀ e ∈ oV ms i,∀ e' ∈ oV ms i,e.m=e'.m→e=e'
 | .io t _ fo s p :: ms,i,e,he,e',he',h=>by
  simp only[oV,Ag] at he he'
  rcases he with rfl|he<;>rcases he' with rfl|he'
  ·rfl
  ·obtain⟨j,h1,h2⟩:=AJ4 e' he';simp only at h;omega
  ·obtain⟨j,h1,h2⟩:=AJ4 e he;simp only at h;omega
  ·exact AV1 e he e' he' h
 | .ro _ :: ms,i,e,he,e',he',h=>by simp only[oV] at he he';exact AV1 e he e' he' h
 | .mv _ _ :: ms,i,e,he,e',he',h=>by simp only[oV] at he he';exact AV1 e he e' he' h
 | [],_,_,he,_,_,_=>by simp[oV] at he
theorem kY:∀ {ms:List Mode} {i:Nat},(oV ms i).map Ent.slot=cP ms
 | .io t _ fo s p :: ms,i=>by simp only[oV,cP,Ai,kY]
 | .ro _ :: ms,i=>by simp only[oV,cP];exact kY
 | .mv _ _ :: ms,i=>by simp only[oV,cP];exact kY
 | [],_=>rfl
theorem fW:∀ {rs:List ResultVar} {k:Nat} {t:Ty} {f:Fl},∀ s ∈ (oE rs k t f).map Ent.slot,s ∈ rs.map Ap9
 | r :: rs,k,.pair a b,f,s,hs=>by
  simp only[oE,Ai,Ag] at hs ⊢
  exact hs.imp id fun h=>fW s h
 | [],_,_,_,_,he=>by simp[oE] at he
 | _ :: _,_,.int _,_,_,he|_ :: _,_,.bool,_,_,he|_ :: _,_,.str,_,_,he|_ :: _,_,.fn,_,_,he|_ :: _,_,.unit,_,_,he
 | _ :: _,_,.sl _,_,_,he|_ :: _,_,.ptr _,_,_,he|_ :: _,_,.arr _ _,_,_,he=>by simp[oE] at he
theorem BD5 {l l':List Nat} (h:iR (l++l')=true):iR l=true∧iR l'=true∧∀ x ∈ l,x ∉ l':=by
 induction l with
 | nil=>exact⟨rfl,h,by simp⟩
 | cons x l ih=>
  obtain⟨h1,h2⟩:=AI9 (x:=x) h
  obtain⟨q1,q2,q3⟩:=ih h2
  refine⟨?_,q2,fun y hy=>?_⟩
  ·simp only[iR,Ac,Aq]
   refine⟨?_,q1⟩
   cases hb:l.any (Ap x ·) with
   | false=>rfl
   | true=>
    obtain⟨y,hy,e⟩:=A8.1 hb
    have:=At e
    subst this
    exact absurd (A7 _ hy) h1
  ·rcases Ag.1 hy with rfl|hy
   ·exact fun hy'=>h1 (A5 _ hy')
   ·exact q3 y hy
theorem AO3:∀ {rs:List ResultVar} {k:Nat} {t:Ty} {f:Fl},iR (rs.map Ap9)=true→∀ e ∈ oE rs k t f,∀ e' ∈ oE rs k t f,e.slot=e'.slot→e=e'
 | r :: rs,k,.pair a b,f,hn,e,he,e',he',h=>by
  simp only[Ai] at hn
  obtain⟨h1,h2⟩:=AI9 hn
  simp only[oE,Ag] at he he'
  rcases he with rfl|he<;>rcases he' with rfl|he'
  ·rfl
  ·simp only at h
   exact absurd (fW _ (Au.2 ⟨e',he',h.symm⟩)) h1
  ·simp only at h
   exact absurd (fW _ (Au.2 ⟨e,he,h⟩)) h1
  ·exact AO3 h2 e he e' he' h
 | [],_,_,_,_,_,he,_,_,_=>by simp[oE] at he
 | _ :: _,_,.int _,_,_,_,he,_,_,_|_ :: _,_,.bool,_,_,_,he,_,_,_|_ :: _,_,.str,_,_,_,he,_,_,_|_ :: _,_,.fn,_,_,_,he,_,_,_|_ :: _,_,.unit,_,_,_,he,_,_,_
 | _ :: _,_,.sl _,_,_,_,he,_,_,_|_ :: _,_,.ptr _,_,_,_,he,_,_,_|_ :: _,_,.arr _ _,_,_,_,he,_,_,_=>by simp[oE] at he
theorem gT:∀ {ms:List Mode} {i:Nat},iR (cP ms)=true→∀ e ∈ oV ms i,∀ e' ∈ oV ms i,e.slot=e'.slot→e=e'
 | .io t _ fo s p :: ms,i,hn,e,he,e',he',h=>by
  simp only[cP] at hn
  obtain⟨h1,h2⟩:=AI9 hn
  simp only[oV,Ag] at he he'
  rcases he with rfl|he<;>rcases he' with rfl|he'
  ·rfl
  ·simp only at h
   exact absurd (by rw[← kY (i:=i+1)];exact Au.2 ⟨e',he',h.symm⟩) h1
  ·simp only at h
   exact absurd (by rw[← kY (i:=i+1)];exact Au.2 ⟨e,he,h⟩) h1
  ·exact gT h2 e he e' he' h
 | .ro _ :: ms,i,hn,e,he,e',he',h=>by simp only[oV] at he he';exact gT (ms:=ms) hn e he e' he' h
 | .mv _ _ :: ms,i,hn,e,he,e',he',h=>by simp only[oV] at he he';exact gT (ms:=ms) hn e he e' he' h
 | [],_,_,_,he,_,_,_=>by simp[oV] at he
theorem BF4 {rs:List ResultVar} {ms:List Mode} {t:Ty} {f:Fl} (h:iR (rs.map Ap9++cP ms)=true):Apart (oE rs 0 t f++oV ms 0):=by
 obtain⟨h1,h2,h3⟩:=BD5 h
 refine⟨fun e he e' he' hm=>?_,fun e he e' he' hm=>?_⟩
 ·rcases A1.1 he with he|he<;>rcases A1.1 he' with he'|he'
  ·exact A0q e he e' he' hm
  ·obtain⟨j,q,_⟩:=AS6 e he;obtain⟨j',q',_⟩:=AJ4 e' he';omega
  ·obtain⟨j,q,_⟩:=AS6 e' he';obtain⟨j',q',_⟩:=AJ4 e he;omega
  ·exact AV1 e he e' he' hm
 ·rcases A1.1 he with he|he<;>rcases A1.1 he' with he'|he'
  ·exact AO3 h1 e he e' he' hm
  ·have q:=fW _ (Au.2 ⟨e,he,rfl⟩)
   have q':e'.slot ∈ cP ms:=by rw[← kY (i:=0)];exact Au.2 ⟨e',he',rfl⟩
   rw[← hm] at q';exact absurd q' (h3 _ q)
  ·have q:=fW _ (Au.2 ⟨e',he',rfl⟩)
   have q':e.slot ∈ cP ms:=by rw[← kY (i:=0)];exact Au.2 ⟨e,he,rfl⟩
   rw[hm] at q';exact absurd q' (h3 _ q)
  ·exact gT h2 e he e' he' hm
end
end Go.Rf

end
section
namespace Go.Rf
set_option linter.unusedSectionVars false
variable [T:Laid]
section
variable {P:Program} {H:Nat→Option (List Value)} {N:Nat} {g g' G:yL} {V V' V0:Nat→Option Value} {w w' w2:World} {S S' S2:Nat→Prop} {β β' β2:Key→Option Nat} {a:Act} {o:Oper}
variable {E:Env} {gv:yL} {us:List Up} {σ:List SV}
def B0f (tmps:Array Value):ResultVar→Sem Value
 | .tmp t=>pure (tmps.getD t undef)
 | .cell a t=>do loadVar t (← asAddr (tmps.getD a undef))
theorem A8w {fn:Func} {tmps:Array Value} {vs:List Value} (h:(fn.results.toList.mapM (B0f tmps)).run P w=.ok vs w):(results fn tmps).run P w=.ok (At6 vs) w:=by
 have e:(fn.results.mapM (B0f tmps)).run P w=.ok vs.toArray w:=by
  rw[Array.mapM_eq_mapM_toList]
  simp[h]
 have e2:results fn tmps=(do let vs ← fn.results.mapM (B0f tmps);pure (if h:vs.size=1 then vs[0] else .tuple vs)):=by
  unfold results
  congr
 rw[e2]
 simp only[Sem.run_bind,e,Result.andThen_ok]
 match vs with
 | []=>rfl
 | [v]=>rfl
 | _ :: _ :: _=>rfl
theorem RelS.dat (h:RelS H σ a w S β) {i:Nat} {d:Dat} (hd:σ.getD i .dead=.dat d):(at? (eI σ) i).sv=.dat d∧∃ c,zX S β H w [i] d.t d.f d.x c∧vals a i=some (yK d.t c):=by
 have hs:(at? (eI σ) i).sv=.dat d:=by
  rw[dJ]
  rw[List.getD] at hd
  cases he:σ[i]? with
  | none=>rw[he] at hd;cases hd
  | some v=>rw[he] at hd;exact hd
 exact⟨hs,h.rel.dat hs⟩
theorem A4s {i:Nat} {v:Value} (h:vals a i=some v):a.tmps.getD i undef=v:=by
 simp only[vals] at h
 rw[Ah,h];rfl
def Mode.np:Mode→Bool
 | .io _ _ fo _ _=>fo.nopin
 | _=>true
def Bv5:Nat→Fl→Fl
 | 0,f=>f
 | n+1,f=>Bv5 n f.r
theorem A90 {s t:Ty} {x:s.D} {y:t.D} (h:iP s t x=some y):∃ e:s=t,e▸x=y:=by
 unfold iP at h
 split at h
 ·rename_i e;exact⟨e,Av h⟩
 ·cases h
theorem B0S {r:ResultVar} {d:Dat} (h:RelS H σ a w S β) (hr:A4z E σ r=some d):
  ∃ c,zX S β H w (Ap9 r :: Bc3 r) d.t d.f d.x c∧(B0f a.tmps r).run E.P w=.ok (yK d.t c) w:=by
 cases r with
 | tmp s=>
  simp only[A4z] at hr
  split at hr
  ·rename_i d' hd
   simp only[Aa] at hr;subst hr
   obtain⟨_,c,hv,hV⟩:=h.dat hd
   exact⟨c,hv,by simp only[B0f];rw[A4s hV];rfl⟩
  ·cases hr
 | cell s ty=>
  simp only[A4z] at hr
  split at hr
  ·rename_i t x f hd
   split at hr
   ·rename_i hc
    simp only[Aa] at hr;subst hr
    simp only[Ac,A6,Aq] at hc
    obtain⟨_,c,hv,hV⟩:=h.dat hd
    have hg:=rN hc.2
    have key:∃ b cs,c=[.pointer (some ⟨b,0,none⟩)]∧Blk w b cs∧cs.size=t.size∧zX S β H w [s,0] t f.e x cs.toList:=by
     rw[lB]
     simp only[zX] at hv
     have hv:=hv.2
     cases hf:f.base with
     | own e=>
      rw[hf] at hv
      obtain⟨b,cs,q1,q2,q3,q4,q5⟩:=hv
      exact⟨b,cs,q1,q3.blk,q4,q5⟩
     | gone=>exact absurd hf hg
     | sh=>
      rw[hf] at hv;simp only[Rd] at hv
      obtain⟨b,cs,q1,q2,q3,q4,q5⟩:=hv
      exact⟨b,cs,q1,q3,q4,xD.2 q5⟩
     | pr e1 e2=>
      rw[hf] at hv;simp only[Rd] at hv
      obtain⟨b,cs,q1,q2,q3,q4,q5⟩:=hv
      refine⟨b,cs,q1,q3,q4,?_⟩
      have hl:=qL q5
      cases t<;>simp only[Fl.e,zX,Fl.base,lV,Fl.pins]<;>exact⟨by simp,hl⟩
     | ar e1=>
      rw[hf] at hv;simp only[Rd] at hv
      obtain⟨b,cs,q1,q2,q3,q4,q5⟩:=hv
      refine⟨b,cs,q1,q3,q4,?_⟩
      have hl:=qL q5
      cases t<;>simp only[Fl.e,zX,Fl.base,lV,Fl.pins]<;>exact⟨by simp,hl⟩
     | pin k e=>exact absurd hf zY
    obtain⟨b,cs,rfl,hB,hz,hv'⟩:=key
    refine⟨cs.toList,hv',?_⟩
    have hcell:zG w t.size (.mem b 0)=some cs.toList:=by
     obtain⟨e,fz,hb⟩:=hB
     simp only[zG,hb]
     rw[Ak (by omega)]
     rw[show t.size=cs.toList.length by simp[hz],AE4]
    simp only[B0f]
    rw[A4s hV]
    simp only[Sem.run_bind]
    rw[show (asAddr (yK (.ptr t) [.pointer (some ⟨b,0,none⟩)])).run E.P w=.ok ⟨b,0,none⟩ w from rfl]
    simp only[Result.andThen_ok]
    exact At8 hc.1 hcell
   ·cases hr
  ·cases hr
theorem A6i {α:Type} {o:Option α} {l:List (Option α)} {ds:List α} (h:AR7 (o :: l)=some ds):∃ d ds',o=some d∧AR7 l=some ds'∧ds=d :: ds':=by
 cases o with
 | none=>simp[AR7] at h
 | some d=>
  simp only[AR7] at h
  obtain⟨ds',h1,h2⟩:=Ad.1 h
  exact⟨d,ds',rfl,h1,h2.symm⟩
theorem At4 {d:Dat} {ds:List Dat} {t:Ty} {f:Fl} {x:t.D} (h:AN0 (d :: ds) t f=some x):
  ∃ (a b:Ty) (e:t=.pair a b) (y:(Ty.pair a b).D),e▸x=y∧Fl.le f.l d.f=true∧iP d.t a d.x=some y.1∧AN0 ds b f.r=some y.2:=by
 cases t with
 | pair a b=>
  simp only[AN0] at h
  split at h
  ·rename_i hle
   obtain⟨y,h1,h2⟩:=Ae.1 h
   obtain⟨z,h3,h4⟩:=Ad.1 h2
   exact⟨a,b,rfl,x,rfl,hle,by rw[h1,← h4],by rw[h3,← h4]⟩
  ·cases h
 | _=>simp[AN0] at h
theorem A6z {L:List Ent} (hT:∀ e ∈ L,∀ f0 (x:e.t.D) c,zX S β H w e.key e.t f0 x c→Fl.le e.f f0=true→zX S' β' H w [e.m] e.t e.f x c) (h:RelS H σ a w S β):
  ∀ {rs:List ResultVar} {ds es:List Dat} {k:Nat} {t:Ty} {f:Fl} {x:t.D},f.nopin=true→AR7 (rs.map (A4z E σ))=some ds→AN0 (ds++es) t f=some x→(∀ e ∈ oE rs k t f,e ∈ L) →
  ∃ crs,mQ S' β' w rs.length k t f x crs∧(rs.mapM (B0f a.tmps)).run E.P w=.ok (iH rs.length t crs) w∧AN0 es (A5h rs.length t) (Bv5 rs.length f)=some (Bp5 rs.length t x)
 | [],ds,es,k,t,f,x,hf,h1,h2,hL=>by
  simp only[List.map_nil,AR7,Aa] at h1
  subst h1
  exact⟨[],by simp[mQ],by simp[iH],h2⟩
 | r :: rs,ds,es,k,t,f,x,hf,h1,h2,hL=>by
  obtain⟨d,ds',hr,h1',rfl⟩:=A6i h1
  obtain⟨ta,tb,rfl,y,rfl,hle,hc,hcol⟩:=At4 (ds:=ds'++es) h2
  obtain⟨e,hx⟩:=A90 hc
  obtain⟨dt,dx,df⟩:=d
  simp only at e hx hle
  subst e
  simp only at hx
  obtain⟨c,hv,hrun⟩:=B0S h hr
  simp only[oE,Ag,forall_eq_or_imp] at hL
  obtain⟨crs,q1,q2,q3⟩:=A6z hT h (k:=k+1) (Ba6 hf) h1' hcol hL.2
  have hv':=hT _ hL.1 df dx c hv hle
  refine⟨c :: crs,⟨AD3 (A7V hf) (hx▸hv'),q1⟩,?_,q3⟩
  simp only[List.mapM_cons,Sem.run_bind,hrun,Result.andThen_ok,q2,Bp,iH]
  rfl
theorem A0X:∀ {p:List PS} {t:Ty} {f:Fl} {x:t.D} {d:Dat},B2Y p=true→xQ p t f x=some d→inB p t x
 | [],_,_,_,_,_,_=>by simp[inB]
 | .fst :: p,.pair a b,f,x,d,h,k=>by simp only[xQ] at k;simp only[inB];exact A0X (p:=p) h k
 | .snd :: p,.pair a b,f,x,d,h,k=>by simp only[xQ] at k;simp only[inB];exact A0X (p:=p) h k
 | .der :: p,.ptr t,f,x,d,h,k=>by simp only[xQ] at k;simp only[inB];exact A0X (p:=p) h k
 | .idx _ :: _,_,_,_,_,h,_=>by simp[B2Y] at h
 | .elm _ :: _,_,_,_,_,h,_=>by simp[B2Y] at h
theorem A0N {L:List Ent} {cs0:List (List Value)} (hT:∀ e ∈ L,∀ f0 (x:e.t.D) c,zX S β (fun i=>cs0[i]?) w e.key e.t f0 x c→Fl.le e.f f0=true→zX S' β' (fun i=>cs0[i]?) w [e.m] e.t e.f x c) (h:RelS (fun i=>cs0[i]?) σ a w S β):
  ∀ {ms:List Mode} {es:List Dat} {i:Nat} {cs:List (List Value)} {t:Ty} {f:Fl} {x:t.D},A1m σ ms i=some es→AN0 es t f=some x→(∀ e ∈ oV ms i,e ∈ L)→cs.length=ms.length→(∀ j,cs[j]?=cs0[i+j]?) →
   (∀ m ∈ ms,m.np=true)→AP9 S' β' w ms cs i t x
 | [],es,i,cs,t,f,x,h1,h2,hL,hl,hc,hm=>by
  match cs,hl with
  | [],_=>simp[AP9]
 | .ro _ :: ms,es,i,cs,t,f,x,h1,h2,hL,hl,hc,hm=>by
  match cs,hl with
  | c :: cs,hl=>
   simp only[A1m] at h1;simp only[oV] at hL
   simp only[AP9]
   exact A0N hT h h1 h2 hL (by simpa using hl) (fun j=>by have:=hc (j+1);rw[show i+(j+1)=i+1+j by omega] at this;simpa using this) (fun m hm'=>hm m (by simp[hm']))
 | .mv _ _ :: ms,es,i,cs,t,f,x,h1,h2,hL,hl,hc,hm=>by
  match cs,hl with
  | c :: cs,hl=>
   simp only[A1m] at h1;simp only[oV] at hL
   simp only[AP9]
   exact A0N hT h h1 h2 hL (by simpa using hl) (fun j=>by have:=hc (j+1);rw[show i+(j+1)=i+1+j by omega] at this;simpa using this) (fun m hm'=>hm m (by simp[hm']))
 | .io tm fi fo s p :: ms,es,i,cs,t,f,x,h1,h2,hL,hl,hc,hm=>by
  match cs,hl with
  | c :: cs,hl=>
   simp only[A1m] at h1
   split at h1
   ·rename_i d hd
    split at h1
    ·rename_i e hg
     split at h1
     ·rename_i j f' hef
      split at h1
      ·rename_i hcond
       simp only[Ac,A6,Aq] at hcond
       obtain⟨⟨⟨⟨hij,hle⟩,het⟩,hng⟩,hix⟩:=hcond
       have hij:=At hij
       subst hij
       obtain⟨es',h1',rfl⟩:=Ad.1 h1
       obtain⟨ta,tb,rfl,y,rfl,_,hcast,hcol⟩:=At4 h2
       obtain⟨q,hx⟩:=A90 hcast
       obtain⟨et,ex,ef⟩:=e
       simp only at het hef q hx
       subst q
       subst het
       subst hef
       simp only at hx
       obtain⟨hsd,_⟩:=h.dat hd
       have hnb:(Fl.pin i f').base≠.gone:=by
        simp only[Fl.base];exact rN hng
       obtain⟨cr,Lc,c2,_,_,_,_,_,hv⟩:=mC.at (h.rel.dat hsd) hg (A0X hix hg) hnb
       have hpin:=tC hv i (by simp[Fl.pins])
       have hc2:c2=c:=by
        have e0:=hc 0
        simp only[A2,Nat.add_zero] at e0
        have hpin:cs0[i]?=some c2:=hpin
        rw[← e0] at hpin
        exact (Av hpin).symm
       subst hc2
       simp only[oV,Ag,forall_eq_or_imp] at hL
       have hv':=hT _ hL.1 _ ex c2 hv hle
       have hfo:fo.nopin=true:=hm (.io et fi fo s p) (by simp)
       refine⟨rfl,AD3 hfo (hx▸hv'),?_⟩
       exact A0N hT h h1' hcol hL.2 (by simpa using hl) (fun j=>by have:=hc (j+1);rw[show i+(j+1)=i+1+j by omega] at this;simpa using this) (fun m hm'=>hm m (by simp[hm']))
      ·cases h1
     ·cases h1
    ·cases h1
   ·cases h1
end
end Go.Rf

end
section
namespace Go.Rf
set_option linter.unusedSectionVars false
variable [T:Laid]
section
variable {P:Program} {H:Nat→Option (List Value)} {N:Nat} {g g' G:yL} {V V' V0:Nat→Option Value} {w w' w2:World} {S S' S2:Nat→Prop} {β β' β2:Key→Option Nat} {a:Act} {o:Oper}
variable {E:Env} {gv:yL} {us:List Up} {σ:List SV}
theorem A3E {cs0:List (List Value)}:∀ {ms:List Mode} {ds:List Dyn} {cs:List (List Value)} {i:Nat} {σ:List SV},oX ms ds i=some σ→tM S β w ms ds cs i→(∀ j,cs[j]?=cs0[i+j]?) →
  σ.length=ms.length∧cs.length=ms.length∧(yP ds cs).length=ms.length∧(∀ m ∈ ms,m.np=true) ∧
  ∀ j v,σ[j]?=some v→∃ (d:Dat) (c:List Value),v=.dat d∧(yP ds cs)[j]?=some (yK d.t c)∧zX S β (fun i=>cs0[i]?) w [i+j] d.t d.f d.x c
 | [],[],[],i,σ,h,_,_=>by
  simp only[oX,Aa] at h
  subst h
  simp[yP]
 | m :: ms,d :: ds,c :: cs,i,σ,h,ha,hc=>by
  have hc':∀ j,cs[j]?=cs0[i+1+j]?:=fun j=>by have:=hc (j+1);rw[show i+(j+1)=i+1+j by omega] at this;simpa using this
  have hc0:cs0[i]?=some c:=by have:=hc 0;simpa using this.symm
  have next:∀ {t:Ty} {fl:Fl} {x:t.D} {σ':List SV},d.t=t→iP d.t t d.x=some x→oX ms ds (i+1)=some σ'→σ=.dat ⟨t,x,fl⟩ :: σ'→tM S β w ms ds cs (i+1) →
    zX S β (fun i=>cs0[i]?) w [i] d.t fl d.x c→m.np=true →
    σ.length=(m :: ms).length∧(c :: cs).length=(m :: ms).length∧(yP (d :: ds) (c :: cs)).length=(m :: ms).length∧(∀ q ∈ m :: ms,q.np=true) ∧
    ∀ j v,σ[j]?=some v→∃ (d':Dat) (c':List Value),v=.dat d'∧(yP (d :: ds) (c :: cs))[j]?=some (yK d'.t c')∧zX S β (fun i=>cs0[i]?) w [i+j] d'.t d'.f d'.x c':=by
   intro t fl x σ' ht hx hi hσ ha' hv hm
   subst ht
   unfold iP at hx
   rw[dif_pos rfl] at hx
   have hx:=Av hx
   simp only at hx
   obtain⟨q1,q2,q3,q4,q5⟩:=A3E hi ha' hc'
   subst hσ
   refine⟨by simp[q1],by simp[q2],by simp[yP,q3],fun m' hm'=>?_,fun j v hj=>?_⟩
   ·rcases Ag.1 hm' with rfl|hm'
    ·exact hm
    ·exact q4 m' hm'
   ·cases j with
    | zero=>
     simp only[A2,Aa] at hj
     subst hj
     exact⟨_,c,rfl,by simp[yP],hx▸hv⟩
    | succ j=>
     obtain⟨d',c',e1,e2,e3⟩:=q5 j v (by simpa using hj)
     exact⟨d',c',e1,by simpa[yP] using e2,by rw[show i+(j+1)=i+1+j by omega];exact e3⟩
  cases m with
  | ro t=>
   simp only[oX] at h
   obtain⟨x,hx,h⟩:=Ae.1 h
   obtain⟨σ',hi,hσ⟩:=Ad.1 h
   simp only[tM] at ha
   exact next ha.1 hx hi hσ.symm ha.2.2 (xD.2 ha.2.1) rfl
  | mv t f=>
   simp only[oX] at h
   obtain⟨x,hx,h⟩:=Ae.1 h
   obtain⟨σ',hi,hσ⟩:=Ad.1 h
   simp only[tM] at ha
   exact next ha.1 hx hi hσ.symm ha.2.2.2 (AD3 ha.2.1 ha.2.2.1) rfl
  | io t f fo s p=>
   simp only[oX] at h
   obtain⟨x,hx,h⟩:=Ae.1 h
   obtain⟨σ',hi,hσ⟩:=Ad.1 h
   simp only[tM] at ha
   refine next ha.1 hx hi hσ.symm ha.2.2.2 ?_ ha.2.1.2
   have hv:zX S β (fun i=>cs0[i]?) w [i] d.t f d.x c:=AD3 ha.2.1.1 ha.2.2.1
   have hp:lV (fun i=>cs0[i]?) (.pin i f) c:=fun k hk=>by
    simp only[Fl.pins,A27 ha.2.1.1,Ay] at hk
    subst hk;exact hc0
   exact fZ (f:=.pin i f) hp hv
 | [],[],_ :: _,_,_,_,ha,_=>by simp[tM] at ha
 | [],_ :: _,_,_,_,h,_,_=>by simp[oX] at h
 | .ro _ :: _,[],_,_,_,h,_,_=>by simp[oX] at h
 | .mv _ _ :: _,[],_,_,_,h,_,_=>by simp[oX] at h
 | .io _ _ _ _ _ :: _,[],_,_,_,h,_,_=>by simp[oX] at h
 | .ro _ :: _,_ :: _,[],_,_,_,ha,_=>by simp[tM] at ha
 | .mv _ _ :: _,_ :: _,[],_,_,_,ha,_=>by simp[tM] at ha
 | .io _ _ _ _ _ :: _,_ :: _,[],_,_,_,ha,_=>by simp[tM] at ha
theorem A5S {f:FuncId} {fn:Func} {x:(E.cfg f).rt.D} {cs:List (List Value)} (h:RelS (fun i=>cs[i]?) σ a w S β) (hx:finish E f fn σ=some x) (hl:cs.length=(E.cfg f).modes.length)
  (hm:∀ m ∈ (E.cfg f).modes,m.np=true):∃ v,(results fn a.tmps).run E.P w=.ok v w∧Ret (E.cfg f) x cs w S β v w:=by
 unfold finish at hx
 split at hx
 ·rename_i hc
  simp only[Ac] at hc
  obtain⟨⟨h1,h2⟩,h3⟩:=hc
  have h2:=At h2
  split at hx
  ·rename_i ds es hds hes
   obtain⟨sane,step,tr⟩:=B1M (H:=fun i=>cs[i]?) (BF4 (t:=(E.cfg f).rt) (f:=(E.cfg f).rf) h1) h.rel.sane
   obtain⟨crs,q1,q2,q3⟩:=A6z (es:=es) (k:=0) tr h h3 hds hx (fun e he=>A7 _ he)
   rw[show fn.results.toList.length=(E.cfg f).nres by simpa using h2] at q1 q2 q3
   refine⟨_,A8w q2,_,_,crs,sane,step,q1,rfl,?_⟩
   exact A0N tr h hes q3 (fun e he=>A5 _ he) hl (fun j=>by simp) hm
  ·cases hx
 ·cases hx
def As9 (P:Program):Prop:=∀ (f:FuncId) (fn:Func),P.funcs[f]?=some fn→(fn.name == "runtime.NumGoroutine")=false
theorem B0a {R:Run E} {L:fT} (hR:Ag4 E R) (hD:A49 E R) (hL:A7y E L) (hN:As9 E.P) {f:FuncId} {ds:List Dyn} {x:(E.cfg f).rt.D} (h:zD E R L f ds=some x):Bw3 E f ds x:=by
 unfold zD at h
 split at h
 ·rename_i fn hfn
  split at h
  ·rename_i c σ hb hi
   split at h
   ·rename_i hcond
    simp only[Ac] at hcond
    have hlen:=Nat.le_of_ble_eq_true hcond.1
    intro w S β cs hs ha
    obtain⟨q1,q2,q3,q4,q5⟩:=A3E (cs0:=cs) hi ha (fun j=>by simp)
    refine .inl ⟨fn,hfn,hN f fn hfn,by rw[hb];rfl,calls_of_wp hfn hb ?_⟩
    have hsz:((yP ds cs).toArray++AM (fn.ntmps - (yP ds cs).toArray.size) undef).size=fn.ntmps:=by
     simp only[Array.size_append,List.size_toArray,Array.size_replicate];omega
    have hrel:RelS (fun i=>cs[i]?) (pad fn.ntmps σ) { tmps:=(yP ds cs).toArray++AM (fn.ntmps - (yP ds cs).toArray.size) undef,defers:=[] } w S β:=by
     refine⟨by rw[hsz];simp[pad];omega,hs,fun i=>?_⟩
     rw[dJ]
     by_cases hi:i < σ.length
     ·have hg:(pad fn.ntmps σ)[i]?=some σ[i]:=by
       unfold pad
       rw[AQ hi,Ab hi]
      rw[hg]
      obtain⟨d,cc,e1,e2,e3⟩:=q5 i σ[i] (Ab hi)
      simp only[e1]
      refine⟨cc,by simpa using e3,?_⟩
      have hi':i < (yP ds cs).length:=by omega
      simp only[vals]
      rw[Array.getElem?_append_left (by simpa using hi')]
      simpa using e2
     ·have hg:∀ v,(pad fn.ntmps σ)[i]?=some v→v=.dead:=fun v hv=>by
       unfold pad at hv
       rw[AP (by omega),List.getElem?_replicate] at hv
       split at hv
       ·exact (Av hv).symm
       ·cases hv
      cases hv:(pad fn.ntmps σ)[i]? with
      | none=>trivial
      | some v=>rw[hg v hv];trivial
    refine kM hR hD hL (by rw[show ({ tmps:=(yP ds cs).toArray++AM (fn.ntmps - (yP ds cs).toArray.size) undef,defers:=[] }:Act).tmps.size=fn.ntmps from hsz];exact hcond.2) hrel h ?_
    intro o a' w' S' β' ho e1 e2 h' hst
    have fin:finish E f fn o.σ=some x→bodyPost E.P fn (fun e w'=>match e,w' with|.returned v,w'=>Ret (E.cfg f) x cs w S β v w'|_,_=>False) .normal a' w':=fun hx=>by
     obtain⟨v,r1,S2,β2,crs,r2,r3,r4,r5,r6⟩:=A5S h' hx q2 q4
     exact⟨e2,v,r1,S2,β2,crs,r2,hst.trans r3,r4,r5,r6⟩
    obtain⟨e,σ'⟩:=o
    cases e with
    | nm=>exact fin ho
    | ret=>exact fin ho
    | ex id=>simp[B3m] at ho
   ·cases h
  ·cases h
 ·cases h
theorem Bn5 {R:Run E} {L:fT} (hR:Ag4 E R) (hD:A49 E R) (ih:A0z E L):A0z E (A2C E R L):=by
 intro H f b σ o a w S β Q hd h hrel hQ
 simp only[A2C] at h
 refine Ay6.round (kM hR hD ih.ok hd hrel h fun o' a' w' S' β' ho e1 e2 h' hst=>?_)
 obtain⟨e,σ'⟩:=o'
 cases e with
 | nm=>
  simp only at ho
  exact ih H f b _ o a' w' S' β' Q (by rw[e1];exact hd) ho h'.killS fun a'' w'' S'' β'' f1 f2 h'' hst'=>hQ a'' w'' S'' β'' (f1.trans e1) (f2.trans e2) h'' (hst.trans hst')
 | ex id=>
  simp only[Aa] at ho;subst ho
  exact hQ a' w' S' β' e1 e2 h' hst
 | ret=>
  simp only[Aa] at ho;subst ho
  exact hQ a' w' S' β' e1 e2 h' hst
theorem A5g {X:(f:FuncId)→Option (List Dyn→Option (E.cfg f).rt.D)} (hX:∀ f h,X f=some h→∀ ds x,h ds=some x→Bw3 E f ds x) (hm:E.P.follows .mixedOrders=true) (hN:As9 E.P):
  ∀ k,A2U E (sJ E X k).1∧A0z E (sJ E X k).2
 | 0=>⟨fun f ds x h=>by simp[sJ] at h,fun H f b σ o a w S β Q _ h _ _=>by simp[sJ] at h⟩
 | k+1=>by
  obtain⟨h1,h2⟩:=A5g hX hm hN k
  have hR:=Bq9 h1
  have hD:A49 E (sJ E X k).1:=B1S hR hm
  refine⟨fun f ds x h=>?_,Bn5 hR hD h2⟩
  simp only[sJ,Ae6] at h
  split at h
  ·rename_i h' hx;exact hX f h' hx ds x h
  ·exact B0a hR hD h2.ok hN h
end
end Go.Rf

end
section
namespace Go.Rf
set_option linter.unusedSectionVars false
variable [T:Laid]
section
variable {E:Env} {ρ:Type}
def RLe (R R':Run E):Prop:=∀ f ds x,R f ds=some x→R' f ds=some x
def LLe (L L':fT):Prop:=∀ f b σ o,L f b σ=some o→L' f b σ=some o
theorem BG3 {R:Run E} {g:yL} {o:Oper} {f:FuncId} {xs:List Operand} {us:List Up} (h:Ad2 E R g o f xs some=some us):
  ∃ ds x,R f ds=some x∧∀ R':Run E,R' f ds=some x→Ad2 E R' g o f xs some=some us:=by
 unfold Ad2 at h
 split at h
 ·rename_i p hp
  split at h
  ·rename_i ds lent hd
   split at h
   ·rename_i hc
    obtain⟨x,hx,hk⟩:=Ae.1 h
    refine⟨ds,x,hx,fun R' h'=>?_⟩
    unfold Ad2
    rw[hp];simp only[hd]
    rw[Ak hc,h']
    exact hk
   ·cases h
  ·cases h
 ·cases h
theorem BZ1 {R:Run E} {g:yL} {o:Oper} {f:FuncId} {xs:List Operand} {us:List Up} (h:Az3 E R g o f xs some=some us):
  ∃ ds x,R f ds=some x∧∀ R':Run E,R' f ds=some x→Az3 E R' g o f xs some=some us:=by
 unfold Az3 at h
 rw[AA0] at h
 obtain⟨us0,h0,h1⟩:=Ae.1 h
 obtain⟨ds,x,hx,hR⟩:=BG3 h0
 refine⟨ds,x,hx,fun R' h'=>?_⟩
 unfold Az3
 rw[AA0,hR R' h']
 exact h1
theorem BK3 {R:Run E} {g:yL} {o:Oper} {v:FnVal} {xs:List Operand} {ts:List TypeId} {us:List Up} (h:AN9 E R g o v xs ts some=some us):
  ∃ f ds x,R f ds=some x∧∀ R':Run E,R' f ds=some x→AN9 E R' g o v xs ts some=some us:=by
 unfold AN9 at h
 split at h
 ·rename_i ds τ h1 h2
  split at h
  ·rename_i hc
   obtain⟨y,hy,hk⟩:=Ae.1 h
   unfold BF5 at hy
   split at hy
   ·cases hy
   ·rename_i f cs
    split at hy
    ·rename_i hrt
     split at hy
     ·rename_i hcond
      obtain⟨x,hx,e⟩:=Ad.1 hy
      refine⟨f,_,x,hx,fun R' h'=>?_⟩
      unfold AN9
      rw[h1,h2];simp only
      rw[Ak hc]
      unfold BF5
      simp only
      rw[dif_pos hrt,Ak hcond,h']
      simp only[AL,e]
      exact hk
     ·cases hy
    ·cases hy
  ·cases h
 ·cases h
theorem BR0 {R:Run E} {mv:Bool} {g:yL} {o:Oper} {us:List Up} (h:opK E R mv g o some=some us):
  (∀ R':Run E,opK E R' mv g o some=some us)∨∃ f ds x,R f ds=some x∧∀ R':Run E,R' f ds=some x→opK E R' mv g o some=some us:=by
 unfold opK at h
 split at h
 case h_22=>
  rename_i c hop
  split at h
  ·rename_i b hcal
   left;intro R';unfold opK;rw[hop];simp only;rw[hcal];exact h
  ·rename_i f hcal
   obtain⟨ds,x,h1,h2⟩:=BZ1 h
   right
   refine⟨f,ds,x,h1,fun R' h'=>?_⟩
   unfold opK;rw[hop];simp only;rw[hcal];exact h2 R' h'
  ·rename_i s hcal
   split at h
   ·rename_i v f hd
    obtain⟨f',ds,x,h1,h2⟩:=BK3 h
    right
    refine⟨f',ds,x,h1,fun R' h'=>?_⟩
    unfold opK;rw[hop];simp only;rw[hcal];simp only;rw[hd];exact h2 R' h'
   ·cases h
  ·cases h
 all_goals first
  | (left;intro R';rename_i hop;unfold opK;rw[hop];exact h)
  | cases h
structure Tower (E:Env) where
 R:Nat→Run E
 L:Nat→fT
 Rw:Run E
 Lw:fT
 upR:∀ k,RLe (R k) (R (k+1))
 upL:∀ k,LLe (L k) (L (k+1))
 limR:∀ f ds x,Rw f ds=some x↔∃ k,R k f ds=some x
 limL:∀ f b σ o,Lw f b σ=some o↔∃ k,L k f b σ=some o
theorem RLe.trans' {R R' R'':Run E} (h:RLe R R') (h':RLe R' R''):RLe R R'':=fun f ds x k=>h' f ds x (h f ds x k)
theorem Tower.leR (T:Tower E) {j k:Nat} (h:j≤k):RLe (T.R j) (T.R k):=by
 induction k with
 | zero=>
  have:j=0:=by omega
  subst this;exact fun _ _ _ h=>h
 | succ k ih=>
  rcases AN k j with h'|h'
  ·have:j=k+1:=by omega
   subst this;exact fun _ _ _ h=>h
  ·exact (ih h').trans' (T.upR k)
theorem Tower.leL (T:Tower E) {j k:Nat} (h:j≤k):LLe (T.L j) (T.L k):=by
 induction k with
 | zero=>
  have:j=0:=by omega
  subst this;exact fun _ _ _ _ h=>h
 | succ k ih=>
  rcases AN k j with h'|h'
  ·have:j=k+1:=by omega
   subst this;exact fun _ _ _ _ h=>h
  ·exact fun f b σ o q=>T.upL k f b σ o (ih h' f b σ o q)
theorem BB1 {R R':Run E} (hle:RLe R R') {mv:Bool} {g:yL} {o:Oper} {us:List Up} (h:opK E R mv g o some=some us):opK E R' mv g o some=some us:=by
 rcases BR0 h with h'|⟨f,ds,x,h1,h2⟩
 ·exact h' R'
 ·exact h2 R' (hle f ds x h1)
theorem AU3 {R R':Run E} (hle:RLe R R') {mv:List Nat} {all:List Oper} {draw:Bool} {κ κ':List Slot→Option ρ} (hκ:∀ l r,κ l=some r→κ' l=some r):∀ {os:List Oper} {i:Nat} {l:List Slot} {acc:List Rec} {r:ρ},
  bR E R mv all draw os i l acc κ=some r→bR E R' mv all draw os i l acc κ'=some r
 | [],i,l,acc,r,h=>by
  unfold bR at h ⊢
  split at h
  ·rename_i hd
   rw[Ak hd]
   split at h
   ·rename_i hc;rw[Ak hc];exact hκ _ _ h
   ·cases h
  ·rename_i hd;rw[Ao hd];exact hκ _ _ h
 | o :: os,i,l,acc,r,h=>by
  have hgo:∀ {gs:List Nat} {l:List Slot},opK E R (mv.any (Ap i ·)) (nK l (A3v o l)) o (fun us=>bR E R mv all draw os (i+1) (eL l us) (acc++[An4 (mv.any (Ap i ·)) gs l o us]) κ)=some r →
    opK E R' (mv.any (Ap i ·)) (nK l (A3v o l)) o (fun us=>bR E R' mv all draw os (i+1) (eL l us) (acc++[An4 (mv.any (Ap i ·)) gs l o us]) κ')=some r:=fun {gs l} h=>by
   rw[AI1] at h ⊢
   obtain⟨us,h1,h2⟩:=Ae.1 h
   rw[BB1 hle h1]
   exact AU3 hle hκ h2
  have hskip:∀ {gs:List Nat} {l:List Slot},(match o.dst with
    | some d=>bR E R mv all draw os (i+1) (upL l (.put d .und)) (acc++[⟨gs,[d],[],[d]⟩]) κ
    | none=>bR E R mv all draw os (i+1) l (acc++[⟨gs,[],[],[]⟩]) κ)=some r →
    (match o.dst with
    | some d=>bR E R' mv all draw os (i+1) (upL l (.put d .und)) (acc++[⟨gs,[d],[],[d]⟩]) κ'
    | none=>bR E R' mv all draw os (i+1) l (acc++[⟨gs,[],[],[]⟩]) κ')=some r:=fun {gs l} h=>by
   cases hd:o.dst with
   | some d=>rw[hd] at h;exact AU3 hle hκ h
   | none=>rw[hd] at h;exact AU3 hle hκ h
  unfold bR at h ⊢
  simp only at h ⊢
  split at h
  ·exact hgo h
  ·rename_i j want hg
   split at h
   ·cases h
   ·rename_i g hgd
    split at h
    ·rename_i t hv
     cases t with
     | true=>
      simp only[A9] at h ⊢
      split at h
      ·rename_i hw;rw[Ak hw];exact hgo h
      ·rename_i hw;rw[Ao hw];exact hskip h
     | false=>
      simp only[A4] at h ⊢
      split at h
      ·rename_i hw;rw[Ak hw];exact hskip h
      ·rename_i hw;rw[Ao hw];exact hgo h
    ·exact hskip h
    ·cases h
theorem A0c (T:Tower E) {mv:List Nat} {all:List Oper} {draw:Bool} {κ:Nat→List Slot→Option ρ} {κw:List Slot→Option ρ} (hup:∀ j k,j≤k→∀ l r,κ j l=some r→κ k l=some r) (hκ:∀ l r,κw l=some r→∃ k,κ k l=some r):
  ∀ {os:List Oper} {i:Nat} {l:List Slot} {acc:List Rec} {r:ρ},bR E T.Rw mv all draw os i l acc κw=some r→∃ k,bR E (T.R k) mv all draw os i l acc (κ k)=some r
 | [],i,l,acc,r,h=>by
  unfold bR at h ⊢
  split at h
  ·rename_i hd
   simp only[hd,AJ]
   split at h
   ·rename_i hc;simp only[hc,AJ];exact hκ _ _ h
   ·cases h
  ·rename_i hd
   simp only[hd];exact hκ _ _ h
 | o :: os,i,l,acc,r,h=>by
  have hgo:∀ {gs:List Nat} {l:List Slot},opK E T.Rw (mv.any (Ap i ·)) (nK l (A3v o l)) o (fun us=>bR E T.Rw mv all draw os (i+1) (eL l us) (acc++[An4 (mv.any (Ap i ·)) gs l o us]) κw)=some r →
    ∃ k,opK E (T.R k) (mv.any (Ap i ·)) (nK l (A3v o l)) o (fun us=>bR E (T.R k) mv all draw os (i+1) (eL l us) (acc++[An4 (mv.any (Ap i ·)) gs l o us]) (κ k))=some r:=fun {gs l} h=>by
   rw[AI1] at h
   obtain⟨us,h1,h2⟩:=Ae.1 h
   obtain⟨k2,h2⟩:=A0c T hup hκ h2
   have h1':∃ k1,opK E (T.R k1) (mv.any (Ap i ·)) (nK l (A3v o l)) o some=some us:=by
    rcases BR0 h1 with h'|⟨f,ds,x,q1,q2⟩
    ·exact⟨0,h' _⟩
    ·obtain⟨k1,q1⟩:=(T.limR f ds x).1 q1
     exact⟨k1,q2 _ q1⟩
   obtain⟨k1,h1'⟩:=h1'
   refine⟨max k1 k2,?_⟩
   rw[AI1,BB1 (T.leR (AB k1 k2)) h1']
   exact AU3 (T.leR (A3 k1 k2)) (hup _ _ (A3 k1 k2)) h2
  have hskip:∀ {gs:List Nat} {l:List Slot},(match o.dst with
    | some d=>bR E T.Rw mv all draw os (i+1) (upL l (.put d .und)) (acc++[⟨gs,[d],[],[d]⟩]) κw
    | none=>bR E T.Rw mv all draw os (i+1) l (acc++[⟨gs,[],[],[]⟩]) κw)=some r →
    ∃ k,(match o.dst with
    | some d=>bR E (T.R k) mv all draw os (i+1) (upL l (.put d .und)) (acc++[⟨gs,[d],[],[d]⟩]) (κ k)
    | none=>bR E (T.R k) mv all draw os (i+1) l (acc++[⟨gs,[],[],[]⟩]) (κ k))=some r:=fun {gs l} h=>by
   cases hd:o.dst with
   | some d=>rw[hd] at h;exact A0c T hup hκ h
   | none=>rw[hd] at h;exact A0c T hup hκ h
  unfold bR at h ⊢
  simp only at h ⊢
  split at h
  ·exact hgo h
  ·rename_i j want hg
   split at h
   ·cases h
   ·rename_i g hgd
    split at h
    ·rename_i t hv
     cases t with
     | true=>
      simp only[A9] at h ⊢
      split at h
      ·rename_i hw;simp only[hw,AJ];exact hgo h
      ·rename_i hw;simp only[hw];exact hskip h
     | false=>
      simp only[A4] at h ⊢
      split at h
      ·rename_i hw;simp only[hw,AJ];exact hskip h
      ·rename_i hw;simp only[hw];exact hgo h
    ·exact hskip h
    ·cases h
end
end Go.Rf

end
section
namespace Go.Rf
set_option linter.unusedSectionVars false
variable [T:Laid]
section
variable {E:Env} {ρ:Type}
theorem A6B {k k':List SV→(Out→Option ρ)→Option ρ} {κ κ':Out→Option ρ} (hk:∀ σ r,k σ κ=some r→k' σ κ'=some r) (hκ:∀ o r,κ o=some r→κ' o=some r):∀ o r,B1g k κ o=some r→B1g k' κ' o=some r:=by
 intro o r h
 obtain⟨e,σ⟩:=o
 cases e with
 | nm=>exact hk σ r h
 | ex id=>exact hκ _ r h
 | ret=>exact hκ _ r h
theorem A0y {id:Nat} {κ κ':Out→Option ρ} (hκ:∀ o r,κ o=some r→κ' o=some r):∀ o r,Aj8 id κ o=some r→Aj8 id κ' o=some r:=by
 intro o r h
 obtain⟨e,σ⟩:=o
 cases e with
 | ex j=>
  simp only[Aj8] at h ⊢
  split at h
  ·rename_i c;rw[Ak c];exact hκ _ r h
  ·rename_i c;rw[Ao c];exact hκ _ r h
 | nm=>exact hκ _ r h
 | ret=>exact hκ _ r h
theorem mS {R R':Run E} {L L':fT} {f:FuncId} (hR:RLe R R') (hL:LLe L L'):∀ {c:Code} {σ:List SV} {κ κ':Out→Option ρ} {r:ρ},(∀ o r,κ o=some r→κ' o=some r)→evB E R L f c σ κ=some r→evB E R' L' f c σ κ'=some r
 | .skip,σ,κ,κ',r,hκ,h=>hκ _ r h
 | .exit _,σ,κ,κ',r,hκ,h=>hκ _ r h
 | .ret,σ,κ,κ',r,hκ,h=>hκ _ r h
 | .region id ops draw,σ,κ,κ',r,hκ,h=>by
  simp only[evB,A1b] at h ⊢
  exact AU3 hR (fun l r=>hκ _ r) h
 | .seq a b,σ,κ,κ',r,hκ,h=>by
  simp only[evB] at h ⊢
  exact mS hR hL (A6B (fun σ r=>mS hR hL hκ) hκ) h
 | .block id b,σ,κ,κ',r,hκ,h=>by
  simp only[evB] at h ⊢
  exact mS hR hL (A0y hκ) h
 | .loop b,σ,κ,κ',r,hκ,h=>by
  simp only[evB,A4j] at h ⊢
  obtain⟨o,h1,h2⟩:=Ae.1 h
  exact Ae.2 ⟨o,hL _ _ _ _ h1,hκ _ r h2⟩
 | .cond c a b,σ,κ,κ',r,hκ,h=>by
  simp only[evB] at h ⊢
  split at h
  ·split at h
   ·rename_i x hx
    cases x with
    | true=>simp only[A9] at h ⊢;exact mS hR hL hκ h
    | false=>simp only[A4] at h ⊢;exact mS hR hL hκ h
   ·split at h
    ·rename_i hu
     obtain⟨h1,h2⟩:=Aq6 h
     rw[Ak hu]
     exact BC8 (mS hR hL hκ h1) (mS hR hL hκ h2)
    ·cases h
   ·cases h
  ·rename_i x
   cases x with
   | true=>simp only[A9] at h ⊢;exact mS hR hL hκ h
   | false=>simp only[A4] at h ⊢;exact mS hR hL hκ h
  ·cases h
 | .rangeFunc _ _ _ _,_,_,_,_,_,h|.scope _,_,_,_,_,_,h|.label _,_,_,_,_,_,h|.goto _,_,_,_,_,_,h|.refuse _,_,_,_,_,_,h=>by simp[evB] at h
theorem aZ (T:Tower E) {f:FuncId}:∀ {c:Code} {σ:List SV} {κ:Nat→Out→Option ρ} {κw:Out→Option ρ} {r:ρ},(∀ j k,j≤k→∀ o r,κ j o=some r→κ k o=some r)→(∀ o r,κw o=some r→∃ k,κ k o=some r) →
  evB E T.Rw T.Lw f c σ κw=some r→∃ k,evB E (T.R k) (T.L k) f c σ (κ k)=some r
 | .skip,σ,κ,κw,r,hup,hκ,h=>hκ _ r h
 | .exit _,σ,κ,κw,r,hup,hκ,h=>hκ _ r h
 | .ret,σ,κ,κw,r,hup,hκ,h=>hκ _ r h
 | .region id ops draw,σ,κ,κw,r,hup,hκ,h=>by
  simp only[evB,A1b] at h ⊢
  exact A0c T (κ:=fun k l=>κ k ⟨.nm,Af1 (E.cfg f).keep l l 0⟩) (fun j k hjk l r=>hup j k hjk _ r) (fun l r=>hκ _ r) h
 | .seq a b,σ,κ,κw,r,hup,hκ,h=>by
  simp only[evB] at h ⊢
  refine aZ T (κ:=fun k=>B1g (evB E (T.R k) (T.L k) f b) (κ k)) (fun j k hjk=>A6B (fun σ r=>mS (T.leR hjk) (T.leL hjk) (hup j k hjk)) (hup j k hjk)) (fun o r ho=>?_) h
  obtain⟨e,σ'⟩:=o
  cases e with
  | nm=>exact aZ T hup hκ ho
  | ex id=>exact hκ _ r ho
  | ret=>exact hκ _ r ho
 | .block id b,σ,κ,κw,r,hup,hκ,h=>by
  simp only[evB] at h ⊢
  refine aZ T (κ:=fun k=>Aj8 id (κ k)) (fun j k hjk=>A0y (hup j k hjk)) (fun o r ho=>?_) h
  obtain⟨e,σ'⟩:=o
  cases e with
  | ex j=>
   simp only[Aj8] at ho ⊢
   split at ho
   ·rename_i c;simp only[c,AJ];exact hκ _ r ho
   ·rename_i c;simp only[c];exact hκ _ r ho
  | nm=>exact hκ _ r ho
  | ret=>exact hκ _ r ho
 | .loop b,σ,κ,κw,r,hup,hκ,h=>by
  simp only[evB,A4j] at h ⊢
  obtain⟨o,h1,h2⟩:=Ae.1 h
  obtain⟨k1,h1⟩:=(T.limL f b _ o).1 h1
  obtain⟨k2,h2⟩:=hκ _ _ h2
  exact⟨max k1 k2,Ae.2 ⟨o,T.leL (AB _ _) _ _ _ _ h1,hup _ _ (A3 _ _) _ _ h2⟩⟩
 | .cond c a b,σ,κ,κw,r,hup,hκ,h=>by
  simp only[evB] at h ⊢
  split at h
  ·split at h
   ·rename_i x hx
    cases x with
    | true=>simp only[A9] at h ⊢;exact aZ T hup hκ h
    | false=>simp only[A4] at h ⊢;exact aZ T hup hκ h
   ·split at h
    ·rename_i hu
     obtain⟨h1,h2⟩:=Aq6 h
     obtain⟨k1,h1⟩:=aZ T hup hκ h1
     obtain⟨k2,h2⟩:=aZ T hup hκ h2
     refine⟨max k1 k2,?_⟩
     simp only[hu,AJ]
     exact BC8 (mS (T.leR (AB _ _)) (T.leL (AB _ _)) (hup _ _ (AB _ _)) h1) (mS (T.leR (A3 _ _)) (T.leL (A3 _ _)) (hup _ _ (A3 _ _)) h2)
    ·cases h
   ·cases h
  ·rename_i x
   cases x with
   | true=>simp only[A9] at h ⊢;exact aZ T hup hκ h
   | false=>simp only[A4] at h ⊢;exact aZ T hup hκ h
  ·cases h
 | .rangeFunc _ _ _ _,_,_,_,_,_,_,h|.scope _,_,_,_,_,_,_,h|.label _,_,_,_,_,_,_,h|.goto _,_,_,_,_,_,_,h|.refuse _,_,_,_,_,_,_,h=>by simp[evB] at h
theorem A24 {R R':Run E} {L L':fT} (hR:RLe R R') (hL:LLe L L') {f:FuncId} {ds:List Dyn} {x:(E.cfg f).rt.D} (h:zD E R L f ds=some x):zD E R' L' f ds=some x:=by
 unfold zD at h ⊢
 split at h
 ·split at h
  ·split at h
   ·rename_i hc;rw[Ak hc];exact mS hR hL (fun _ _ h=>h) h
   ·cases h
  ·cases h
 ·cases h
theorem Bd0 (T:Tower E) {f:FuncId} {ds:List Dyn} {x:(E.cfg f).rt.D} (h:zD E T.Rw T.Lw f ds=some x):∃ k,zD E (T.R k) (T.L k) f ds=some x:=by
 unfold zD at h ⊢
 split at h
 ·split at h
  ·split at h
   ·rename_i hc
    simp only[hc,AJ]
    exact aZ T (κ:=fun _=>_) (fun _ _ _ _ _ h=>h) (fun _ _ h=>⟨0,h⟩) h
   ·cases h
  ·cases h
 ·cases h
def Bq4 (E:Env) (L:fT) (f:FuncId) (b:Code):Out→Option Out
 | ⟨.nm,σ⟩=>L f b (killS (A9a (E.cfg f) b) σ)
 | o=>some o
theorem Ak9 {R:Run E} {L:fT} {f:FuncId} {b:Code} {σ:List SV}:A2C E R L f b σ=evB E R L f b σ (Bq4 E L f b):=by
 unfold A2C
 congr
theorem Ao7 {L L':fT} (hL:LLe L L') {f:FuncId} {b:Code}:∀ o r,Bq4 E L f b o=some r→Bq4 E L' f b o=some r:=by
 intro o r h
 obtain⟨e,σ⟩:=o
 cases e with
 | nm=>exact hL _ _ _ _ h
 | ex id=>exact h
 | ret=>exact h
variable (X:(f:FuncId)→Option (List Dyn→Option (E.cfg f).rt.D))
theorem AS8:∀ k,RLe (sJ E X k).1 (sJ E X (k+1)).1∧LLe (sJ E X k).2 (sJ E X (k+1)).2
 | 0=>⟨fun _ _ _ h=>by simp[sJ] at h,fun _ _ _ _ h=>by simp[sJ] at h⟩
 | k+1=>by
  obtain⟨h1,h2⟩:=AS8 k
  refine⟨fun f ds x h=>?_,fun f b σ o h=>?_⟩
  ·show Ae6 E X (sJ E X (k+1)).1 (sJ E X (k+1)).2 f ds=some x
   have h:Ae6 E X (sJ E X k).1 (sJ E X k).2 f ds=some x:=h
   unfold Ae6 at h ⊢
   split at h
   ·exact h
   ·exact A24 h1 h2 h
  ·show A2C E (sJ E X (k+1)).1 (sJ E X (k+1)).2 f b σ=some o
   have h:A2C E (sJ E X k).1 (sJ E X k).2 f b σ=some o:=h
   rw[Ak9] at h ⊢
   exact mS h1 h2 (Ao7 h2) h
open Classical in
noncomputable def sup {α:Type} (s:Nat→Option α):Option α:=if h:∃ x k,s k=some x then some h.choose else none
theorem BW8 {α:Type} {s:Nat→Option α} (hu:∀ k x,s k=some x→s (k+1)=some x) {x:α}:sup s=some x↔∃ k,s k=some x:=by
 have up:∀ d k x,s k=some x→s (k+d)=some x:=by
  intro d
  induction d with
  | zero=>intro k x h;exact h
  | succ d ih=>intro k x h;exact hu _ _ (ih k x h)
 have det:∀ k k' x y,s k=some x→s k'=some y→x=y:=fun k k' x y h h'=>by
  have a:=up k' k x h
  have b:=up k k' y h'
  rw[Nat.add_comm] at b
  rw[a] at b;exact Av b
 unfold sup
 constructor
 ·intro h
  split at h
  ·rename_i hx
   obtain⟨k,hk⟩:=hx.choose_spec
   simp only[Aa] at h
   exact⟨k,by rw[← h];exact hk⟩
  ·cases h
 ·rintro⟨k,hk⟩
  have hx:∃ x k,s k=some x:=⟨x,k,hk⟩
  rw[dif_pos hx]
  obtain⟨k',hk'⟩:=hx.choose_spec
  rw[det _ _ _ _ hk' hk]
noncomputable def AR4:Tower E where
 R k:=(sJ E X k).1
 L k:=(sJ E X k).2
 Rw f ds:=sup fun k=>(sJ E X k).1 f ds
 Lw f b σ:=sup fun k=>(sJ E X k).2 f b σ
 upR k:=(AS8 X k).1
 upL k:=(AS8 X k).2
 limR f ds _:=BW8 fun k x h=>(AS8 X k).1 f ds x h
 limL f b σ _:=BW8 fun k x h=>(AS8 X k).2 f b σ x h
noncomputable def run:Run E:=(AR4 X).Rw
noncomputable def lps:fT:=(AR4 X).Lw
theorem Bv7 (f:FuncId) (ds:List Dyn):run X f ds=Ae6 E X (run X) (lps X) f ds:=by
 have T:=AR4 X
 apply Option.ext
 intro x
 constructor
 ·intro h
  obtain⟨k,hk⟩:=((AR4 X).limR f ds x).1 h
  cases k with
  | zero=>cases (show (none:Option _)=some x from hk)
  | succ k=>
   have hk:Ae6 E X (sJ E X k).1 (sJ E X k).2 f ds=some x:=hk
   unfold Ae6 at hk ⊢
   split at hk
   ·exact hk
   ·exact A24 (fun f ds x h=>((AR4 X).limR f ds x).2 ⟨k,h⟩) (fun f b σ o h=>((AR4 X).limL f b σ o).2 ⟨k,h⟩) hk
 ·intro h
  refine ((AR4 X).limR f ds x).2 ?_
  unfold Ae6 at h
  split at h
  ·rename_i h' hX
   refine⟨1,?_⟩
   show Ae6 E X (sJ E X 0).1 (sJ E X 0).2 f ds=some x
   unfold Ae6
   rw[hX];exact h
  ·rename_i hX
   obtain⟨k,hk⟩:=Bd0 (AR4 X) h
   refine⟨k+1,?_⟩
   show Ae6 E X (sJ E X k).1 (sJ E X k).2 f ds=some x
   unfold Ae6
   rw[hX];exact hk
theorem B2w (f:FuncId) (b:Code) (σ:List SV):lps X f b σ=A2C E (run X) (lps X) f b σ:=by
 rw[Ak9]
 apply Option.ext
 intro o
 constructor
 ·intro h
  obtain⟨k,hk⟩:=((AR4 X).limL f b σ o).1 h
  cases k with
  | zero=>cases (show (none:Option _)=some o from hk)
  | succ k=>
   have hk:A2C E (sJ E X k).1 (sJ E X k).2 f b σ=some o:=hk
   rw[Ak9] at hk
   have hL:LLe (sJ E X k).2 (lps X):=fun f b σ o h=>((AR4 X).limL f b σ o).2 ⟨k,h⟩
   exact mS (fun f ds x h=>((AR4 X).limR f ds x).2 ⟨k,h⟩) hL (Ao7 hL) hk
 ·intro h
  obtain⟨k,hk⟩:=aZ (AR4 X) (κ:=fun k=>Bq4 E ((AR4 X).L k) f b) (fun j k hjk=>Ao7 ((AR4 X).leL hjk)) (fun o r ho=>by
   obtain⟨e,σ'⟩:=o
   cases e with
   | nm=>exact ((AR4 X).limL _ _ _ _).1 ho
   | ex id=>exact⟨0,ho⟩
   | ret=>exact⟨0,ho⟩) h
  refine ((AR4 X).limL f b σ o).2 ⟨k+1,?_⟩
  show A2C E (sJ E X k).1 (sJ E X k).2 f b σ=some o
  rw[Ak9];exact hk
theorem B2s {f:FuncId} (hX:X f=none) (ds:List Dyn):run X f ds=zD E (run X) (lps X) f ds:=by
 rw[Bv7];unfold Ae6;rw[hX]
theorem Bx9 (hX:∀ f h,X f=some h→∀ ds x,h ds=some x→Bw3 E f ds x) (hm:E.P.follows .mixedOrders=true) (hN:As9 E.P):A2U E (run X):=fun f ds x h=>by
 obtain⟨k,hk⟩:=((AR4 X).limR f ds x).1 h
 exact (A5g hX hm hN k).1 f ds x hk
end
end Go.Rf

end
section
namespace Go.Rf
set_option linter.unusedSectionVars false
variable [T:Laid]
def cF:Ty→Bool
 | .int _=>true
 | .bool=>true
 | .str=>true
 | .unit=>true
 | .sl t=>cF t&&Nat.blt 0 t.size
 | .arr _ t=>cF t
 | .pair a b=>cF a&&cF b
 | _=>false
def AZ4:(t:Ty)→t.D→Prop
 | .int k,x=>(Lit.int k x).wf=true
 | .str,x=>AS x≤maxLen
 | .sl t,x=>AS x≤maxLen∧∀ (i:Nat) (y:t.D),nth x i=some y→AZ4 t y
 | .arr _ t,x=>∀ (i:Nat) (y:t.D),nth x i=some y→AZ4 t y
 | .pair a b,x=>AZ4 a x.1∧AZ4 b x.2
 | _,_=>True
theorem Af0 {α:Type} {Q:Nat→α→Prop}:∀ {n:Nat},(∀ i,i < n→∃ y,Q i y)→∃ xs:List α,xs.length=n∧∀ i y,nth xs i=some y→Q i y
 | 0,_=>⟨[],rfl,by simp[nth]⟩
 | n+1,h=>by
  obtain⟨xs,h1,h2⟩:=Af0 (n:=n) fun i hi=>h i (by omega)
  obtain⟨y,hy⟩:=h n (by omega)
  refine⟨xs++[y],by simp[h1],fun i z hz=>?_⟩
  simp only[nth] at hz h2
  rcases AN i n with hi|hi
  ·rw[AQ (by omega)] at hz;exact h2 i z hz
  ·rw[AP (by omega),h1] at hz
   have:i=n:=by
    have:=(Am.1 hz).1
    simp at this;omega
   subst this
   simp at hz
   subst hz;exact hy
theorem B1V {α β:Type} {f:α→Option β}:∀ {l:List α} {r:List β},l.mapM f=some r→∀ (i:Nat) (x:α),l[i]?=some x→∃ y,f x=some y∧r[i]?=some y:=fun {_ _} h i x hx=>by
 have:=mapM_some_get h i x hx
 have hl:=mapM_some_length h
 have hi:=(Am.1 hx).1
 exact⟨_,this.trans (Ab (by omega)),Ab (by omega)⟩
section
variable {P:Program} {w:World} {H:Type} {enc:TypeId × Value→H} {sp:Nat→Bool} {held:Bool}
theorem A6E {a:Addr} {n:Nat} {c:List Value} (hn:0 < n) (h:w.cells? 0 a n=some c):∃ cs e fz,a.spot=none∧w.heap[a.block]?=some (.cells cs e fz)∧a.off+n≤cs.size∧c=win cs.toList a.off n:=by
 obtain⟨b,o,spot⟩:=a
 unfold World.cells? at h
 rw[Ak (Nat.zero_le _)] at h
 have hlen:=mapM_some_length h
 have hat:∀ i,i < n→∃ y,w.cell? (Bv ⟨b,o,spot⟩ i)=some y∧c[i]?=some y:=fun i hi=>B1V h i i (by simp[hi])
 have h0:=hat 0 hn
 obtain⟨y0,h0,_⟩:=h0
 simp only[Bv,AJ,World.cell?] at h0
 cases hb:w.heap[b]? with
 | none=>rw[hb] at h0;simp at h0
 | some ob=>
  cases ob with
  | cells cs e fz=>
   rw[hb] at h0
   simp only at h0
   split at h0
   ·cases h0
   ·rename_i hs
    have hs:spot=none:=by cases spot<;>simp_all
    subst hs
    have hc:∀ i,i < n→cs[o+i]?=c[i]?:=fun i hi=>by
     obtain⟨y,h1,h2⟩:=hat i hi
     rw[gY] at h1
     simp only[World.cell?,hb] at h1
     rw[h2]
     simpa using h1
    have hsz:o+n≤cs.size:=by
     have:=hc (n - 1) (by omega)
     have h2:n - 1 < c.length:=by simp at hlen;omega
     rw[Ab h2] at this
     have:=(Ax.1 this).1
     omega
    refine⟨cs,e,fz,rfl,rfl,hsz,?_⟩
    apply Bj
    intro i
    simp only[win]
    by_cases hi:i < n
    ·rw[List.getElem?_take_of_lt hi,List.getElem?_drop,← hc i hi]
     simp
    ·rw[A0 (by simp at hlen;omega),A0 (by simp;omega)]
  | _=>rw[hb] at h0;simp at h0
theorem AD1 {d:Nat} {t:TypeId} {τ:Ty} (h:tyN P (d+1) t=some τ):P.cellsOf t=τ.size:=by
 obtain⟨i,u,h1,_,h3,_⟩:=kF h
 simp[Program.cellsOf,h1,h3]
theorem A2z {d fuel:Nat} (ih:∀ (t:TypeId) (τ:Ty) (cs:List Value) (data:DataW H × List MemPlace),tyN P (d+1) t=some τ→cF τ=true→DataW.trod enc P w 0 sp held fuel t cs=some data→∃ x:τ.D,Rd (fun b=>b < w.heap.size) w τ x cs∧AZ4 τ x) {cs:List Value}:
  ∀ {fs:List Field} {off:Nat} {τ:Ty},jZ (tyN P (d+1)) fs off=some τ→cF τ=true →
   (∀ f ∈ fs,∃ y,DataW.trod enc P w 0 sp held fuel f.type ((cs.drop f.offset).take (P.cellsOf f.type))=some y)→cs.length=off+τ.size→∃ x:τ.D,Rd (fun b=>b < w.heap.size) w τ x (cs.drop off)∧AZ4 τ x
 | [],off,τ,hc,_,_,hl=>by
  simp only[jZ,Aa] at hc
  subst hc
  simp only[Ty.size] at hl
  refine⟨(),?_,trivial⟩
  simp only[Rd]
  exact List.drop_eq_nil_iff.2 (by omega)
 | f :: fs,off,τ,hc,hp,hm,hl=>by
  simp only[jZ] at hc
  split at hc
  ·rename_i a ha
   split at hc
   ·rename_i ho
    have ho:f.offset=off:=by simpa[Nat.beq_eq] using ho
    obtain⟨b,hb,rfl⟩:=Ad.1 hc
    simp only[cF,Ac] at hp
    simp only[Ty.size] at hl
    obtain⟨y,h1⟩:=hm f (by simp)
    rw[AD1 ha,ho] at h1
    obtain⟨x,hx,hfx⟩:=ih f.type a _ y ha hp.1 h1
    obtain⟨z,hz,hfz⟩:=A2z ih hb hp.2 (fun f' hf'=>hm f' (by simp[hf'])) (by omega)
    refine⟨(x,z),?_,hfx,hfz⟩
    simp only[Rd]
    refine⟨hx,?_⟩
    rw[List.drop_drop];exact hz
   ·cases hc
  ·cases hc
theorem A4R:∀ {d fuel:Nat} {t:TypeId} {τ:Ty} {cs:List Value} {data:DataW H × List MemPlace},tyN P d t=some τ→cF τ=true→DataW.trod enc P w 0 sp held fuel t cs=some data →
  ∃ x:τ.D,Rd (fun b=>b < w.heap.size) w τ x cs∧AZ4 τ x
 | 0,_,_,_,_,_,h,_,_=>by simp[tyN] at h
 | d+1,fuel,t,τ,cs,data,ht,hp,h=>by
  obtain⟨i,u,hi,hu,hsz,hsh⟩:=kF ht
  have hcell:P.cellsOf t=τ.size:=AD1 ht
  unfold kJ at hsh
  split at hsh
  ·subst hsh
   obtain⟨n,rfl,_,hw⟩:=DataW.trod_int hu h
   exact⟨n,by simp only[Rd],hw⟩
  ·subst hsh
   obtain⟨b,rfl,_⟩:=DataW.trod_bool hu h
   exact⟨b,by simp only[Rd],trivial⟩
  ·subst hsh
   obtain⟨s,rfl,_,hs⟩:=DataW.trod_string hu h
   exact⟨s.data.toList,by simp only[Rd],by simp only[AZ4];rw[Array.length_toList];exact hs⟩
  ·subst hsh;simp[cF] at hp
  ·rename_i e
   obtain⟨a,ha,rfl⟩:=hsh
   simp only[cF,Ac] at hp
   have hpos:0 < a.size:=by have:=hp.2;simpa[Nat.blt_eq] using this
   cases d with
   | zero=>simp[tyN] at ha
   | succ d=>
   have hce:=AD1 ha
   rcases DataW.trod_slice hu h with ⟨rfl,_⟩| ⟨ad,len,cap,elems,rest,n,rfl,rfl,_,_,hlc,hcm,hel,hat,_,_⟩
   ·exact⟨([]:List a.D),by simp only[Rd];exact⟨none,0,rfl,Al _,.inl rfl⟩,by simp[AZ4,nth]⟩
   ·rw[hce] at hat
    have key:∀ i,i < len→∃ y:a.D,∃ c,w.cells? 0 (ad.add (i * a.size)) a.size=some c∧Rd (fun b=>b < w.heap.size) w a y c∧AZ4 a y:=fun i hi=>by
     have:=hat i hi
     rw[Ab (by omega)] at this
     obtain⟨c,h1,h2⟩:=Ae.1 this
     obtain⟨y,hy,hf⟩:=A4R ha hp.1 h2
     exact⟨y,c,h1,hy,hf⟩
    obtain⟨xs,hx1,hx2⟩:=Af0 key
    rcases Nat.eq_zero_or_pos len with h0|h0
    ·refine⟨xs,?_,?_⟩
     ·simp only[Rd]
      exact⟨some ad,cap,by rw[hx1],by rw[hx1];exact hlc,.inl (AW.1 (by omega))⟩
     ·simp only[AZ4]
      exact⟨by rw[hx1];omega,fun i y hy=>(hx2 i y hy).choose_spec.2.2⟩
    ·obtain⟨c0,hc0⟩:∃ c,w.cells? 0 (ad.add (0 * a.size)) a.size=some c:=by
      obtain⟨y,c,h1,_⟩:=key 0 h0;exact⟨c,h1⟩
     obtain⟨cs,ee,fz,hsp,hb,_,_⟩:=A6E hpos hc0
     obtain⟨b,o,spot⟩:=ad
     simp only[Nat.zero_mul,Bv,AJ] at hsp hb
     subst hsp
     have hcell:∀ i c,w.cells? 0 (Bv ⟨b,o,none⟩ (i * a.size)) a.size=some c→o+i * a.size+a.size≤cs.size∧c=win cs.toList (o+i * a.size) a.size:=fun i c hc=>by
      rw[gY] at hc
      obtain⟨cs',ee',fz',_,hb',h3,h4⟩:=A6E hpos hc
      rw[hb] at hb'
      simp only[Aa,Obj.cells.injEq] at hb'
      obtain⟨rfl,_,_⟩:=hb'
      exact⟨h3,h4⟩
     refine⟨xs,?_,?_⟩
     ·simp only[Rd]
      refine⟨some ⟨b,o,none⟩,cap,by rw[hx1],by rw[hx1];exact hlc,.inr ⟨b,o,cs,rfl,(Ax.1 hb).1,⟨ee,fz,hb⟩,?_,fun i y hy=>?_⟩⟩
      ·obtain⟨y,c,h1,_⟩:=key (len - 1) (by omega)
       have:=(hcell _ _ h1).1
       rw[hx1]
       have e:len * a.size=(len - 1) * a.size+a.size:=by
        rw[← Nat.succ_mul];congr 1;omega
       omega
      ·obtain⟨c,h1,h2,_⟩:=hx2 i y hy
       rw[← (hcell i c h1).2];exact h2
     ·simp only[AZ4]
      exact⟨by rw[hx1];omega,fun i y hy=>(hx2 i y hy).choose_spec.2.2⟩
  ·obtain⟨a,_,rfl⟩:=hsh;simp[cF] at hp
  ·rename_i n e
   obtain⟨a,ha,rfl⟩:=hsh
   simp only[cF] at hp
   cases d with
   | zero=>simp[tyN] at ha
   | succ d=>
   have hce:=AD1 ha
   obtain⟨xs,m,rfl,_,hl,hxl,hat⟩:=DataW.trod_array hu h
   rw[hce] at hat
   rw[hcell] at hl
   have key:∀ i,i < n→∃ y:a.D,Rd (fun b=>b < w.heap.size) w a y (win cs (i * a.size) a.size)∧AZ4 a y:=fun i hi=>by
    have:=hat i hi
    rw[Ab (by omega)] at this
    exact A4R ha hp this
   obtain⟨ys,hy1,hy2⟩:=Af0 key
   refine⟨ys,?_,?_⟩
   ·simp only[Rd]
    exact⟨hy1,hl,fun i y hy=>(hy2 i y hy).1⟩
   ·simp only[AZ4]
    exact fun i y hy=>(hy2 i y hy).2
  ·rename_i fs
   cases d with
   | zero=>
    cases hfs:fs.toList with
    | nil=>
     rw[hfs] at hsh
     simp only[jZ,Aa] at hsh
     subst hsh
     obtain⟨xs,n,rfl,_,hl,_,_⟩:=DataW.trod_struct hu h
     rw[hcell] at hl
     exact⟨(),by simp only[Rd];exact AW.1 hl,trivial⟩
    | cons f fs'=>
     rw[hfs] at hsh
     simp[jZ,tyN] at hsh
   | succ d=>
   obtain⟨xs,n,rfl,_,hl,hxl,hat⟩:=DataW.trod_struct hu h
   rw[hcell] at hl
   have:=A2z (cs:=cs) (fun t τ cs data h1 h2 h3=>A4R h1 h2 h3) hsh hp (fun f hf=>by
    obtain⟨i,hi,e⟩:=A'.1 hf
    have h1:fs[i]?=some f:=by
     rw[← AH,Ab hi,e]
    have:=hat i f h1
    rw[Ab (by simp at hi;omega)] at this
    exact⟨_,this⟩) (by omega)
   simpa using this
  ·exact hsh.elim
end
end Go.Rf

end
section
namespace Go.Rf
set_option linter.unusedSectionVars false
variable [T:Laid]
open Go.ChangeShapes Go.WideShapes Go.ChangeAt Go.RowKit
def A7w:List Dyn→Prop
 | []=>True
 | d :: ds=>AZ4 d.t d.x∧A7w ds
section
variable {P:Program} {w:World} {H:Type} {enc:TypeId × Value→H} {sp:Nat→Bool} {held:Bool}
theorem A7L {d:Nat} {t:TypeId} {τ:Ty} {v:Value} (ht:tyN P (d+1) t=some τ) (hp:cF τ=true) (hv:Value.okWide P w .any 0 t v∨∃ b,Value.okWide P w .any b t v):v=yK τ v.cells.toList:=by
 have hv:∃ b,Value.okWide P w .any b t v:=hv.elim (fun h=>⟨0,h⟩) id
 obtain⟨b,hv⟩:=hv
 obtain⟨i,u,hi,hu,hsz,hsh⟩:=kF ht
 unfold kJ at hsh
 split at hsh
 ·subst hsh;obtain⟨n,rfl⟩:=okWide_int hu hv;rfl
 ·subst hsh;obtain⟨n,rfl⟩:=okWide_bool hu hv;rfl
 ·subst hsh;obtain⟨n,rfl⟩:=okWide_string hu hv;rfl
 ·subst hsh;simp[cF] at hp
 ·obtain⟨a,_,rfl⟩:=hsh;obtain⟨_,_,_,rfl⟩:=okWide_slice hu hv;rfl
 ·obtain⟨a,_,rfl⟩:=hsh;simp[cF] at hp
 ·obtain⟨a,_,rfl⟩:=hsh
  unfold Value.okWide at hv
  rw[hu] at hv
  obtain⟨cs,rfl,_⟩:=hv
  simp[yK,Ty.agg,Value.cells]
 ·obtain⟨cs,rfl,_⟩:=okWide_struct hu hv
  rcases lF hsh with rfl|⟨a,b,rfl⟩<;>simp[yK,Ty.agg,Value.cells]
 ·exact hsh.elim
theorem A63:∀ {ts:List TypeId} {vs:List Value} {ds:List (DataW H)} {ps:List MemPlace} {tys:List Ty} {b:Nat},DataW.TrodAll enc P w 0 sp held ts vs ds ps→ts.map (tyN P 8)=tys.map some→tys.all cF=true →
  (∀ (j:Nat) (t:TypeId) (v:Value),ts[j]?=some t→vs[j]?=some v→Value.okWide P w .any b t v) →
  ∃ dy cs,AP3 (fun b=>b < w.heap.size) w dy cs∧yP dy cs=vs∧dy.map Dyn.t=tys∧A7w dy∧ds.length=ts.length
 | [],[],[],ps,tys,b,_,ht,_,_=>by
  cases tys with
  | nil=>exact⟨[],[],by simp[AP3],by simp[yP],rfl,trivial,rfl⟩
  | cons _ _=>simp at ht
 | t :: ts,v :: vs,d :: ds,ps,tys,b,h,ht,hp,hv=>by
  cases tys with
  | nil=>simp at ht
  | cons τ tys=>
   simp only[Ai,Af] at ht
   simp only[Bd,Ac] at hp
   obtain⟨p,q,⟨fuel,h1⟩,h2,_⟩:=h
   obtain⟨x,hx,hf⟩:=A4R ht.1 hp.1 h1
   obtain⟨dy,cs,q1,q2,q3,q4,q5⟩:=A63 h2 ht.2 hp.2 (fun j t' v' h1 h2=>hv (j+1) t' v' (by simpa using h1) (by simpa using h2))
   refine⟨⟨τ,x⟩ :: dy,v.cells.toList :: cs,⟨hx,q1⟩,?_,by simp[q3],⟨hf,q4⟩,by simp[q5]⟩
   simp only[yP,q2]
   rw[← A7L ht.1 hp.1 (.inr ⟨b,hv 0 t v rfl rfl⟩)]
 | [],_ :: _,_,_,_,_,h,_,_,_=>by simp[DataW.TrodAll] at h
 | [],[],_ :: _,_,_,_,h,_,_,_=>by simp[DataW.TrodAll] at h
 | _ :: _,[],_,_,_,_,h,_,_,_=>by simp[DataW.TrodAll] at h
 | _ :: _,_ :: _,[],_,_,_,h,_,_,_=>by simp[DataW.TrodAll] at h
theorem An0 (hl:laidOutB P=true) {W W':World} (hb:Below W.heap.size W W'):∀ {ts:List TypeId} {vs:List Value} {ds:List (DataW H)} {ps:List MemPlace},DataW.TrodAll enc P W 0 (fun _=>true) true ts vs ds ps →
  (∀ t ∈ ts,P.readableRec t=true∧t < P.types.size)→DataW.TrodAll enc P W' 0 (fun b=>decide (b < W.heap.size)) true ts vs ds ps
 | [],[],[],ps,h,_=>h
 | t :: ts,v :: vs,d :: ds,ps,h,hr=>by
  obtain⟨p,q,h1,h2,rfl⟩:=h
  refine⟨p,q,?_,An0 hl hb h2 fun t' h'=>hr t' (by simp[h']),rfl⟩
  have ⟨fuel,h1'⟩:=h1
  exact Below.trod hl (hr t (by simp)).1 (hr t (by simp)).2 h1 hb (DataW.trod_lt fuel _ _ _ h1')
 | [],_ :: _,_,_,h,_=>by simp[DataW.TrodAll] at h
 | [],[],_ :: _,_,h,_=>by simp[DataW.TrodAll] at h
 | _ :: _,[],_,_,h,_=>by simp[DataW.TrodAll] at h
 | _ :: _,_ :: _,[],_,h,_=>by simp[DataW.TrodAll] at h
end
def BR1:(t:Ty)→t.D→Bool
 | .pair .bool _,x=>x.1
 | _,_=>false
theorem Bu8:∀ {tys:List Ty} {dy:List Dyn},dy.map Dyn.t=tys→A2O (tys.map .ro) dy=true
 | [],[],_=>rfl
 | t :: tys,d :: dy,h=>by
  simp only[Ai,Af] at h
  simp only[Ai,A2O,h.1,decide_true,Bool.true_and]
  exact Bu8 h.2
 | [],_ :: _,h=>by simp at h
 | _ :: _,[],h=>by simp at h
theorem Bi8 {E:Env} {R:Run E} (hR:A2U E R) {f:FuncId} {fn:Func} {W:World} {tys:List Ty} {dy:List Dyn} {cs:List (List Value)} (hfn:E.P.funcs[f]?=some fn) (hb:fn.body.isNone=false) {keep:List Nat} {mv:List (Nat × Nat)}
  (hcfg:E.cfg f=⟨tys.map .ro,1,.pair .bool .unit,.sh,keep,mv⟩) (hdy:dy.map Dyn.t=tys) (hrd:AP3 (fun b=>b < W.heap.size) W dy cs) {x:(E.cfg f).rt.D} (hx:R f dy=some x) (ht:BR1 _ x=true) (htab:∀ t ∈ T.tabs,Blk W t.1 t.2):
  Calls E.P f (yP dy cs).toArray W fun e W'=>e=.returned (.bool true)∧Below W.heap.size W W':=by
 have h:=hR f dy x hx W (fun b=>b < W.heap.size) (fun _=>none) cs ⟨fun _ _ _ h=>by simp at h,fun _ _ h=>by simp at h,fun _ _ h=>by simp at h,fun _ h=>h,fun t ht=>⟨(htab t ht).lt,htab t ht⟩⟩ (BU9 (by rw[hcfg];exact Bu8 hdy) hrd)
 have post:∀ v W',Ret (E.cfg f) x cs W (fun b=>b < W.heap.size) (fun _=>none) v W'→v=.bool true∧Below W.heap.size W W':=by
  rintro v W' ⟨S',β',crs,h1,h2,h3,h4,h5⟩
  refine⟨?_,⟨h2.out.os,h2.out.tape,h2.out.output,h2.size,fun k hk=>h2.old k hk (fun _=>by simp)⟩⟩
  have key:∀ (c:FCfg) (x:c.rt.D),c=⟨tys.map .ro,1,.pair .bool .unit,.sh,keep,mv⟩→BR1 _ x=true→mQ S' β' W' c.nres 0 c.rt c.rf x crs→v=At6 (iH c.nres c.rt crs)→v=.bool true:=by
   intro c x hc ht h3 h4
   subst hc
   match crs,h3 with
   | [c],h3=>
    simp only[mQ] at h3
    have:=h3.1
    simp only[Fl.l] at this
    rw[xD] at this
    simp only[Rd] at this
    subst this
    have ht:x.1=true:=ht
    rw[h4]
    show Value.bool x.1=_
    rw[ht]
   | [],h3=>simp[mQ] at h3
   | _ :: _ :: _,h3=>simp[mQ] at h3
  exact key _ x hcfg ht h3 h4
 rcases h with ⟨fn',_,_,_,h⟩| ⟨v,w',hrun,hret⟩
 ·refine h.mono fun e W' he=>?_
  cases e with
  | returned v=>obtain⟨rfl,hb⟩:=post v W' he;exact⟨rfl,hb⟩
  | panicked _=>exact he.elim
  | outgrown=>exact he.elim
 ·exfalso
  have hb':fn.body≠none:=fun e=>by rw[e] at hb;simp at hb
  by_cases hnm:fn.name = "runtime.NumGoroutine"
  ·have hr:(callFunc f (yP dy cs).toArray).run E.P W=.ok .numGoroutine W:=by
    simp only[callFunc,go_sem]
    simp[hfn,hnm]
   rw[hr] at hrun;simp at hrun
  ·have hr:(callFunc f (yP dy cs).toArray).run E.P W=.ok (.enter f (yP dy cs).toArray) W:=by
    simp only[callFunc,go_sem]
    simp[hfn,hnm,hb']
   rw[hr] at hrun;simp at hrun
theorem B0Z {C:Checked} {cfg:FuncId→FCfg} {R:Run ⟨C.prog,cfg⟩} (hR:A2U ⟨C.prog,cfg⟩ R) {f:FuncId} {fn:Func} {s:ChangeSpec} {tys:List Ty} {keep:List Nat} {mv:List (Nat × Nat)} {tb:TypeId} {n:Nat}
  (hcfg:cfg f=⟨tys.map .ro,1,.pair .bool .unit,.sh,keep,mv⟩) (hfn:C.prog.funcs[f]?=some fn) (hb:fn.body.isNone=false) (hty:fn.params.toList.map (tyN C.prog 8)=tys.map some) (hp:tys.all cF=true)
  (hvars:s.vars=[]) (hs:∀ (H:Type) (ds:List (DataW H)),ds.length=n→s.fn H ds={ results:=[.lit (.bool true)],args:=ds }) (hn:fn.params.toList.length=n) (hrt:fn.resultTypes=#[tb]) (hut:C.prog.underlying tb=some .bool)
  (hl:laidOutB C.prog=true) (hr:∀ t ∈ fn.params.toList,C.prog.readableRec t=true∧t < C.prog.types.size)
  (hx:∀ dy:List Dyn,dy.map Dyn.t=tys→A7w dy→∃ x,R f dy=some x∧BR1 _ x=true)
  {H:Type} (enc:TypeId × Value→H) (W:World) (htab:∀ t ∈ T.tabs,Blk W t.1 t.2) (base:Nat) (args:Array Value) (ds gs:List (DataW H)) (before:List MemPlace)
  (hval:∀ (j:Nat) t v,fn.params[j]?=some t→args[j]?=some v→Value.okWide C.prog W .any base t v)
  (hW:DataW.Whole enc C.prog fn.params.toList s.vars false W args.toList ds gs before):
  Calls C.prog f args W fun e W'=>∃ v,e=.returned v∧s.post enc C.prog fn false true false false W args v W':=by
 have hW':=hW
 obtain⟨p,q,hA,hV,rfl,hfz,hnd⟩:=hW
 rw[hvars] at hV
 obtain⟨rfl,rfl⟩:=trodVars_none hV
 obtain⟨dy,cs,h1,h2,h3,h4,h5⟩:=A63 (b:=base) hA hty hp (fun j t v hj hv=>hval j t v (by simpa using hj) (by simpa using hv))
 obtain⟨x,hx1,hx2⟩:=hx dy h3 h4
 have hc:=Bi8 hR hfn hb hcfg h3 h1 hx1 hx2 htab
 have hargs:(yP dy cs).toArray=args:=by rw[h2]
 rw[hargs] at hc
 refine hc.mono fun e W' ⟨he,bel⟩=>?_
 refine⟨_,he,ds,[],_,[],p,[],hW',?_,?_,?_,bel.frame _,fun h=>by cases h⟩
 ·rw[hs H (ds++[]) (by simp[h5,hn]),hrt]
  exact trodAll_mk1 (shut_bool hut _)
 ·rw[hs H (ds++[]) (by simp[h5,hn])]
  simp only[Bt]
  exact An0 hl bel hA hr
 ·rw[hvars,hs H (ds++[]) (by simp[h5,hn])]
  rfl
end Go.Rf

end
section
namespace Go.Rf
set_option linter.unusedSectionVars false
variable [T:Laid]
def BU7:List (Nat × FCfg)→FuncId→FCfg
 | [],_=>⟨[],0,.unit,.sh,[],[]⟩
 | (n,c) :: l,f=>cond (Ap n f) c (BU7 l f)
def B2P (P:Program):Bool:=P.funcs.toList.all fun fn=>!(fn.name == "runtime.NumGoroutine")
theorem A2v {P:Program} (h:B2P P=true):As9 P:=fun f fn hf=>by
 have:=AU.1 h fn (by
  obtain⟨hi,e⟩:=Ax.1 hf
  rw[← e];exact Array.mem_toList_iff.2 (Array.getElem_mem hi))
 simpa using this
def xB (E:Env) (R:Run E) (v:FnVal) (ds:List Dyn):Option Bool:=BF5 E R v ds .bool
def A5H (E:Env) (R:Run E) (v:FnVal) (ds:List Dyn):Option Int:=BF5 E R v ds (.int .i64)
def fF:Code→List Nat→Bool
 | .loop (.loop _),[]=>false
 | .loop _,[]=>true
 | .seq a _,0 :: p=>fF a p
 | .seq _ b,1 :: p=>fF b p
 | .cond _ a _,0 :: p=>fF a p
 | .cond _ _ b,1 :: p=>fF b p
 | .block _ b,0 :: p=>fF b p
 | .loop b,0 :: p=>fF b p
 | _,_=>false
section
variable {E:Env} {X:(f:FuncId)→Option (List Dyn→Option (E.cfg f).rt.D)} {ρ:Type} {f:FuncId}
theorem Al7 {R:Run E} {ρ':Type} {mv:List Nat} {all:List Oper} {draw:Bool} {κ1:List Slot→Option ρ} {κ2:ρ→Option ρ'}:∀ {os:List Oper} {i:Nat} {l:List Slot} {acc:List Rec},
  bR E R mv all draw os i l acc (fun l=>(κ1 l).bind κ2)=(bR E R mv all draw os i l acc κ1).bind κ2
 | [],i,l,acc=>by
  unfold bR
  split
  ·split<;>rfl
  ·rfl
 | o :: os,i,l,acc=>by
  have hgo:∀ {gs:List Nat} {l:List Slot},opK E R (mv.any (Ap i ·)) (nK l (A3v o l)) o (fun us=>bR E R mv all draw os (i+1) (eL l us) (acc++[(An4 (mv.any (Ap i ·)) gs l o us:Rec)]) (fun l=>(κ1 l).bind κ2)) =
    (opK E R (mv.any (Ap i ·)) (nK l (A3v o l)) o (fun us=>bR E R mv all draw os (i+1) (eL l us) (acc++[(An4 (mv.any (Ap i ·)) gs l o us:Rec)]) κ1)).bind κ2:=fun {gs l}=>by
   have e1:=AI1 (E:=E) (R:=R) (mv:=mv.any (Ap i ·)) (g:=nK l (A3v o l)) (o:=o) (κ:=fun us=>bR E R mv all draw os (i+1) (eL l us) (acc++[(An4 (mv.any (Ap i ·)) gs l o us:Rec)]) κ1)
   rw[AI1,e1,Bk]
   congr
   funext us
   exact Al7
  have hskip:∀ {gs:List Nat} {l:List Slot},(match o.dst with
    | some d=>bR E R mv all draw os (i+1) (upL l (.put d .und)) (acc++[(⟨gs,[d],[],[d]⟩:Rec)]) (fun l=>(κ1 l).bind κ2)
    | none=>bR E R mv all draw os (i+1) l (acc++[(⟨gs,[],[],[]⟩:Rec)]) (fun l=>(κ1 l).bind κ2)) =
    (match o.dst with
    | some d=>bR E R mv all draw os (i+1) (upL l (.put d .und)) (acc++[(⟨gs,[d],[],[d]⟩:Rec)]) κ1
    | none=>bR E R mv all draw os (i+1) l (acc++[(⟨gs,[],[],[]⟩:Rec)]) κ1).bind κ2:=fun {gs l}=>by
   cases hd:o.dst with
   | some d=>exact Al7
   | none=>exact Al7
  unfold bR
  simp only
  split
  ·exact hgo
  ·split
   ·rfl
   ·split
    ·rename_i t hv
     cases t with
     | true=>
      simp only[A9]
      split
      ·exact hgo
      ·exact hskip
     | false=>
      simp only[A4]
      split
      ·exact hskip
      ·exact hgo
    ·exact hskip
    ·rfl
theorem AC2 {R:Run E} {L:fT} {ρ':Type} {κ2:ρ→Option ρ'} (hu:BI9 (E.cfg f).keep=false):∀ {c:Code} {σ:List SV} {κ1:Out→Option ρ},evB E R L f c σ (fun o=>(κ1 o).bind κ2)=(evB E R L f c σ κ1).bind κ2
 | .skip,_,_=>rfl
 | .exit _,_,_=>rfl
 | .ret,_,_=>rfl
 | .region id ops draw,σ,κ1=>by
  simp only[evB,A1b]
  exact Al7 (κ1:=fun l=>κ1 ⟨.nm,Af1 (E.cfg f).keep l l 0⟩)
 | .seq a b,σ,κ1=>by
  simp only[evB]
  rw[← AC2 hu (c:=a)]
  congr
  funext o
  obtain⟨e,σ'⟩:=o
  cases e with
  | nm=>exact AC2 hu
  | ex id=>rfl
  | ret=>rfl
 | .block id b,σ,κ1=>by
  simp only[evB]
  rw[← AC2 hu (c:=b)]
  congr
  funext o
  obtain⟨e,σ'⟩:=o
  cases e with
  | ex j=>simp only[Aj8];split<;>rfl
  | nm=>rfl
  | ret=>rfl
 | .loop b,σ,κ1=>by
  simp only[evB,A4j]
  rw[Bk]
 | .cond c a b,σ,κ1=>by
  simp only[evB]
  split
  ·split
   ·rename_i x hx
    cases x with
    | true=>simp only[A9];exact AC2 hu
    | false=>simp only[A4];exact AC2 hu
   ·simp only[hu,Bf,if_false];rfl
   ·rfl
  ·rename_i x
   cases x with
   | true=>simp only[A9];exact AC2 hu
   | false=>simp only[A4];exact AC2 hu
  ·rfl
 | .rangeFunc _ _ _ _,_,_|.scope _,_,_|.label _,_,_|.goto _,_,_|.refuse _,_,_=>rfl
theorem A8f (hu:BI9 (E.cfg f).keep=false) {b:Code} {σ:List SV} {κ:Out→Option ρ}:A4j (lps X) f b σ κ=evB E (run X) (lps X) f b σ (B2d E (lps X) f b κ):=by
 unfold A4j
 rw[B2w,Ak9,← AC2 hu]
 congr
 funext o
 obtain⟨e,σ'⟩:=o
 cases e<;>rfl
theorem kD (hu:BI9 (E.cfg f).keep=false):∀ {c:Code} {p:List Nat} {σ:List SV} {κ:Out→Option ρ},fF c p=true →
  A9s E (run X) (lps X) f (sub c p) σ (cS E (run X) (lps X) f c p κ)=A9s E (run X) (lps X) f (sub c (p++[0])) σ (cS E (run X) (lps X) f c (p++[0]) κ)
 | .loop b,[],σ,κ,h=>by
  have e:∀ κ':Out→Option ρ,A9s E (run X) (lps X) f b σ κ'=evB E (run X) (lps X) f b σ κ':=fun κ'=>by
   cases b<;>first|rfl|simp[fF] at h
  simp only[sub,AY,cS]
  rw[e]
  exact A8f hu
 | .seq a _,0 :: p,σ,κ,h=>by simp only[fF] at h;simp only[sub,cS,Aj];exact kD hu h
 | .seq _ b,1 :: p,σ,κ,h=>by simp only[fF] at h;simp only[sub,cS,Aj];exact kD hu h
 | .cond _ a _,0 :: p,σ,κ,h=>by simp only[fF] at h;simp only[sub,cS,Aj];exact kD hu h
 | .cond _ _ b,1 :: p,σ,κ,h=>by simp only[fF] at h;simp only[sub,cS,Aj];exact kD hu h
 | .block _ b,0 :: p,σ,κ,h=>by simp only[fF] at h;simp only[sub,cS,Aj];exact kD hu h
 | .loop b,0 :: p,σ,κ,h=>by simp only[fF] at h;simp only[sub,cS,Aj];exact kD hu h
 | .skip,_,_,_,h|.region _ _ _,_,_,_,h|.exit _,_,_,_,h|.ret,_,_,_,h|.rangeFunc _ _ _ _,_,_,_,h|.scope _,_,_,_,h|.label _,_,_,_,h|.goto _,_,_,_,h|.refuse _,_,_,_,h=>by simp[fF] at h
 | .seq _ _,[],_,_,h|.cond _ _ _,[],_,_,h|.block _ _,[],_,_,h=>by simp[fF] at h
 | .seq _ _,(_+2) :: _,_,_,h|.cond _ _ _,(_+2) :: _,_,_,h|.block _ _,(_+1) :: _,_,_,h|.loop _,(_+1) :: _,_,_,h=>by simp[fF] at h
theorem BV9 {fn:Func} {p:List Nat} {σ:List SV} (h:(fF (A9v fn) p&&!BI9 (E.cfg f).keep)=true):zN E (run X) (lps X) f fn p σ=zN E (run X) (lps X) f fn (p++[0]) σ:=by
 rw[Ac,Aq] at h
 exact kD h.2 h.1
end
end Go.Rf

end
section
namespace Go.Rf
set_option linter.unusedSectionVars false
variable [T:Laid]
theorem nn (i:Nat):zA (i:Int)=true:=by simp[zA]
theorem tn (i:Nat):Int.toNat (i:Int)=i:=Int.toNat_natCast i
theorem zO {i n:Nat} (h:i < n):Nat.blt i n=true:=by simpa[Nat.blt_eq] using h
theorem lZ {i n:Nat} (h:i < n):decide ((i:Int) < (n:Int))=true:=by simpa using h
theorem jG {i n:Nat} (h:n≤i):decide ((i:Int) < (n:Int))=false:=by simpa using h
theorem zI {n:Int} (h1:-9223372036854775808≤n) (h2:n≤9223372036854775807):Bl .i64 n=n:=by
 have e:∀ m:Int,(if (IntKind.i64.signed&&decide (m ≥ (2 ^ (IntKind.i64.bits - 1):Int)))=true then m - (2 ^ IntKind.i64.bits:Int) else m)=if (9223372036854775808:Int)≤m then m - 18446744073709551616 else m:=fun m=>by
  by_cases h:(9223372036854775808:Int)≤m
  ·rw[Ak h,Ak]
   ·rfl
   ·show (true&&decide (m ≥ (9223372036854775808:Int)))=true
    simpa using h
  ·rw[Ao h,Ao]
   show ¬ (true&&decide (m ≥ (9223372036854775808:Int)))=true
   simpa using h
 unfold Bl
 refine (e _).trans ?_
 show (if (9223372036854775808:Int)≤n % 18446744073709551616 then n % 18446744073709551616 - 18446744073709551616 else n % 18446744073709551616)=n
 split<;>omega
theorem zB {i:Nat} (h:i < 9223372036854775807):Bl .i64 ((i:Int)+1)=((i+1:Nat):Int):=by
 rw[zI (by omega) (by omega)];omega
theorem yU {a b:Int}:eqI a b=decide (a=b):=rfl
theorem iI {a b:List UInt8}:eqS a b=decide (a=b):=rfl
theorem AE1 (a:Int):leI a a=true:=by simp[leI]
theorem wF {n:Nat} (h:n≤1099511627776):yI n=true:=by simpa[yI,Nat.ble_eq] using h
theorem xK {α:Type} {l:List α} {i:Nat} {d:α} (h:i < l.length):l.getD i d ∈ l:=by
 rw[Az,Ab h];exact List.getElem_mem h
theorem yH {α:Type} {l:List α} {i:Nat} {d:α} (h:i < l.length):l.drop i=l.getD i d :: l.drop (i+1):=by
 rw[Az,Ab h,List.drop_eq_getElem_cons h];rfl
theorem Al6 {t:Ty} {x:List t.D} (h:AZ4 (.sl t) x):∀ s ∈ x,AZ4 t s:=fun s hs=>by
 obtain⟨i,hi,e⟩:=A'.1 hs
 refine h.2 i s ?_
 show x[i]?=some s
 rw[Ab hi,e]
theorem B0o {α:Type} {a b:List α} {i:Nat} (hl:b.length=a.length) (h:∀ j,j < i→b[j]?=a[j]?) (hi:a.length≤i):b=a:=by
 apply Bj
 intro j
 rcases AN j i with hj|hj
 ·exact h j hj
 ·rw[A0 (by omega),A0 (by omega)]
theorem A4x {α:Type} {a b:List α} {i:Nat} {d:α} (hl:b.length=a.length) (hi:i < a.length) (h:∀ j,j < i→b[j]?=a[j]?):∀ j,j < i+1→(b.set i (a.getD i d))[j]?=a[j]?:=fun j hj=>by
 rw[Bm]
 by_cases e:i=j
 ·subst e
  rw[Ak rfl,Ak (by omega),Az,Ab hi];rfl
 ·rw[Ao e];exact h j (by omega)
end Go.Rf

end
section
namespace Go.Rf
set_option linter.unusedSectionVars false
variable [T:Laid]
def cnt:(t:Ty)→t.D→Nat
 | .str,x=>AS x
 | .sl t,x=>AS x+(List.map (cnt t) x).sum
 | .pair a b,x=>cnt a x.1+cnt b x.2
 | _,_=>0
def szF (c:Nat) (l:Int):Int:=if (c:Int)≤l then l - c else -1
theorem dZ {c:Nat} {l:Int} (h:(c:Int)≤l):szF c l=l - c:=Ak h
theorem nV {c:Nat} {l:Int} (h:l < (c:Int)):szF c l=-1:=Ao (by omega)
theorem A2r {α:Type} (F:Int→Int→Option (Int × Unit)) (v:List α) (d:α) (f:α→Nat)
  (stop:∀ l,F l (v.length:Nat)=some (l,()))
  (step:∀ (l:Int) (i:Nat),i < v.length→0≤l→l≤1048576→F l i=if (f (v.getD i d):Int)≤l then F (l - f (v.getD i d)) ((i+1:Nat):Int) else some (-1,())):
  ∀ (n i:Nat) (l:Int),v.length - i=n→i≤v.length→0≤l→l≤1048576→F l i=some (szF (((v.drop i).map f).sum) l,())
 | 0,i,l,hn,hi,h0,h1=>by
  have:i=v.length:=by omega
  subst this
  rw[stop,As (Al _)]
  simp[szF,h0]
 | n+1,i,l,hn,hi,h0,h1=>by
  have hlt:i < v.length:=by omega
  rw[step l i hlt h0 h1,yH (d:=d) hlt,Ai,Be]
  generalize f (v.getD i d)=c
  by_cases h:(c:Int)≤l
  ·rw[Ak h,A2r F v d f stop step n (i+1) (l - c) (by omega) (by omega) (by omega) (by omega)]
   generalize ((v.drop (i+1)).map f).sum=e
   unfold szF
   by_cases h2:(e:Int)≤l - c
   ·rw[Ak h2,Ak (by omega)];congr 2;omega
   ·rw[Ao h2,Ao (by omega)]
  ·rw[Ao h,nV (by omega)]
theorem An6 {α:Type} (F:List α→Int→Option (List α × Unit)) (v:List α) (d:α)
  (stop:∀ w,w.length=v.length→F w (v.length:Nat)=some (w,()))
  (step:∀ (w:List α) (i:Nat),i < v.length→w.length=v.length→F w i=F (w.set i (v.getD i d)) ((i+1:Nat):Int)):
  ∀ (n i:Nat) (w:List α),v.length - i=n→i≤v.length→w.length=v.length→(∀ j,j < i→w[j]?=v[j]?)→F w i=some (v,())
 | 0,i,w,hn,hi,hl,hw=>by
  have:i=v.length:=by omega
  subst this
  rw[stop w hl,B0o hl hw (Al _)]
 | n+1,i,w,hn,hi,hl,hw=>by
  have hlt:i < v.length:=by omega
  rw[step w i hlt hl]
  exact An6 F v d stop step n (i+1) _ (by omega) (by omega) (by simpa using hl) (A4x hl hlt hw)
theorem Aj7 {α:Type} (F:Int→Option (Bool × Unit)) (v:List α)
  (stop:F (v.length:Nat)=some (true,()))
  (step:∀ (i:Nat),i < v.length→F i=F ((i+1:Nat):Int)):
  ∀ (n i:Nat),v.length - i=n→i≤v.length→F i=some (true,())
 | 0,i,hn,hi=>by
  have:i=v.length:=by omega
  subst this
  exact stop
 | n+1,i,hn,hi=>by
  rw[step i (by omega)]
  exact Aj7 F v stop step n (i+1) (by omega) (by omega)
def mapM {α:Type} (f:α→Nat→α × Nat):List α→Nat→List α × Nat
 | [],k=>([],k)
 | x :: xs,k=>((f x k).1 :: (mapM f xs (f x k).2).1,(mapM f xs (f x k).2).2)
theorem A3t {α:Type} {f:α→Nat}:∀ {l:List α} {y:α},y ∈ l→f y≤(l.map f).sum
 | x :: xs,y,h=>by
  simp only[Ai,Be]
  rcases Ag.1 h with e|e
  ·subst e;omega
  ·have:=A3t (f:=f) e
   omega
theorem cN {t:Ty} {x:List t.D} {i:Nat} {d:t.D} (h:i < x.length):cnt t (x.getD i d)≤cnt (.sl t) x:=by
 have:=A3t (f:=cnt t) (xK (d:=d) h)
 show _≤AS x+(List.map (cnt t) x).sum
 omega
theorem A1k {a c:Nat} {l:Int} (h:(a:Int)≤l):szF c (l - a)=szF (a+c) l:=by
 unfold szF
 by_cases h2:(c:Int)≤l - a
 ·rw[Ak h2,Ak (by omega)];omega
 ·rw[Ao h2,Ao (by omega)]
theorem A0S {α:Type} {f:α→Nat}:∀ (l:List α),(∀ x,f x=0)→(l.map f).sum=0
 | [],_=>rfl
 | x :: xs,h=>by
  simp only[Ai,Be]
  rw[h x,A0S xs h]
def BE6 {α:Type} (p:α→Bool):List α→Nat→Int
 | [],_=>-1
 | x :: xs,i=>cond (p x) (i:Int) (BE6 p xs (i+1))
theorem bL {α:Type} (p:α→Bool):∀ (l:List α) (i:Nat),decide (0≤BE6 p l i)=l.any p
 | [],_=>rfl
 | x :: xs,i=>by
  show decide (0≤cond (p x) (i:Int) (BE6 p xs (i+1)))=(p x || xs.any p)
  cases p x with
  | true=>exact AO (by simp only[A9];omega)
  | false=>simp only[A4,Bw];exact bL p xs (i+1)
theorem AL0 {α:Type} (F:Int→Int→Option (Int × Unit)) (v:List α) (d:α) (p:α→Bool)
  (stop:∀ a,F a (v.length:Nat)=some (-1,()))
  (step:∀ (a:Int) (i:Nat),i < v.length→F a i=cond (p (v.getD i d)) (some ((i:Int),())) (F i ((i+1:Nat):Int))):
  ∀ (n i:Nat) (a:Int),v.length - i=n→i≤v.length→F a i=some (BE6 p (v.drop i) i,())
 | 0,i,a,hn,hi=>by
  have:i=v.length:=by omega
  subst this
  rw[stop,As (Al _)];rfl
 | n+1,i,a,hn,hi=>by
  rw[step a i (by omega),yH (d:=d) (by omega),AL0 F v d p stop step n (i+1) i (by omega) (by omega)]
  show _=some (cond (p (v.getD i d)) (i:Int) (BE6 p (v.drop (i+1)) (i+1)),())
  cases p (v.getD i d)<;>rfl
theorem AR0 {α:Type} (p:α→Bool) (l:List α):(!l.any fun x=>!p x)=l.all p:=by
 simp[List.all_eq_not_any_not]
theorem gs {α:Type} {l:List α} {i:Nat} {a d:α} (h:i < l.length):(l.set i a).getD i d=a:=by
 rw[Az,Bm];simp[h]
theorem ss {α:Type} {l:List α} {i:Nat} {a b:α}:(l.set i a).set i b=l.set i b:=List.set_set ..
def A05:Ty→Bool
 | .int _=>true
 | .bool=>true
 | .str=>true
 | .unit=>true
 | .pair a b=>A05 a&&A05 b
 | _=>false
noncomputable def eqC {α:Type} (a b:α):Bool:=@decide (a=b) (AE _)
theorem A3w {α:Type} {a b:α} (h:a=b):eqC a b=true:=@AO _ (AE _) h
theorem A41 {α:Type} {a b:α} (h:¬ a=b):eqC a b=false:=@AX _ (AE _) h
theorem Ar5 {α:Type} {a b:α}:eqC a b=true↔a=b:=by
 constructor
 ·intro h
  by_cases e:a=b
  ·exact e
  ·rw[A41 e] at h;cases h
 ·exact A3w
theorem BR3 {α γ:Type} {a b:α} {c d:γ} (h:a=b↔c=d):eqC a b=eqC c d:=by
 by_cases e:a=b
 ·rw[A3w e,A3w (h.1 e)]
 ·rw[A41 e,A41 (fun e'=>e (h.2 e'))]
theorem BV4 {α:Type} [DecidableEq α] {a b:α}:decide (a=b)=eqC a b:=by
 by_cases e:a=b
 ·rw[A3w e,AO e]
 ·rw[A41 e,AX e]
theorem Br8 {a b:Int}:eqI a b=eqC a b:=BV4
theorem B2g {a b:List UInt8}:eqS a b=eqC a b:=BV4
theorem B3T {a b:Bool}:eqB a b=eqC a b:=by
 by_cases e:a=b
 ·rw[A3w e];subst e;simp[eqB]
 ·rw[A41 e];simp[eqB,e]
theorem Bn0 {a b:Unit}:eqC a b=true:=A3w rfl
theorem A0D {α γ:Type} {a b:α × γ}:(eqC a.1 b.1&&eqC a.2 b.2)=eqC a b:=by
 rw[Bu,Ac,Ar5,Ar5,Ar5]
 exact⟨fun h=>Prod.ext h.1 h.2,fun h=>⟨by rw[h],by rw[h]⟩⟩
theorem A9n {α:Type} {a b:α} {as bs:List α}:eqC (a :: as) (b :: bs)=(eqC a b&&eqC as bs):=by
 rw[Bu,Ac,Ar5,Ar5,Ar5]
 exact⟨fun h=>by cases h;exact⟨rfl,rfl⟩,fun h=>by rw[h.1,h.2]⟩
theorem A4A:∀ {t:Ty} (h:A05 t=true) (x y:t.D),eqD t x y=eqC x y
 | .int _,_,x,y=>Br8
 | .bool,_,x,y=>B3T
 | .str,_,x,y=>B2g
 | .unit,_,x,y=>(A3w (Subsingleton.elim (α:=Unit) x y)).symm
 | .pair a b,h,x,y=>by
  have h:(A05 a&&A05 b)=true:=h
  rw[Ac] at h
  show (eqD a x.1 y.1&&eqD b x.2 y.2)=_
  rw[A4A h.1,A4A h.2];exact A0D
 | .fn,h,_,_=>by cases h
 | .sl _,h,_,_=>by cases h
 | .ptr _,h,_,_=>by cases h
 | .arr _ _,h,_,_=>by cases h
theorem A8B {α β:Type} (F:β→Int→Option (Bool × Unit)) (nx:Nat→β) (x y:List α) (d:α) (q:α→α→Bool) (hq:∀ a b,q a b=eqC a b) (hl:x.length=y.length)
  (stop:∀ s,F s (x.length:Nat)=some (true,()))
  (step:∀ (s:β) (i:Nat),i < x.length→F s i=cond (q (x.getD i d) (y.getD i d)) (F (nx i) ((i+1:Nat):Int)) (some (false,()))):
  ∀ (n i:Nat) (s:β),x.length - i=n→i≤x.length→F s i=some (eqC (x.drop i) (y.drop i),())
 | 0,i,s,hn,hi=>by
  have:i=x.length:=by omega
  subst this
  rw[stop,As (Al _),As (by omega),A3w rfl]
 | n+1,i,s,hn,hi=>by
  rw[step s i (by omega),yH (l:=x) (d:=d) (by omega),yH (l:=y) (d:=d) (by omega),A9n,hq,A8B F nx x y d q hq hl stop step n (i+1) _ (by omega) (by omega)]
  cases eqC (x.getD i d) (y.getD i d)<;>rfl
def By1 {α γ:Type} (p:α→γ→Bool):List α→List γ→Bool
 | a :: as,b :: bs=>p a b&&By1 p as bs
 | [],[]=>true
 | _,_=>false
theorem A4U {α β γ:Type} (F:β→Int→Option (Bool × Unit)) (nx:Nat→β) (x:List α) (y:List γ) (d:α) (e:γ) (p:α→γ→Bool) (hl:x.length=y.length)
  (stop:∀ s,F s (x.length:Nat)=some (true,()))
  (step:∀ (s:β) (i:Nat),i < x.length→F s i=cond (p (x.getD i d) (y.getD i e)) (F (nx i) ((i+1:Nat):Int)) (some (false,()))):
  ∀ (n i:Nat) (s:β),x.length - i=n→i≤x.length→F s i=some (By1 p (x.drop i) (y.drop i),())
 | 0,i,s,hn,hi=>by
  have:i=x.length:=by omega
  subst this
  rw[stop,As (Al _),As (by omega)];rfl
 | n+1,i,s,hn,hi=>by
  rw[step s i (by omega),yH (l:=x) (d:=d) (by omega),yH (l:=y) (d:=e) (by omega),A4U F nx x y d e p hl stop step n (i+1) _ (by omega) (by omega)]
  show _=some (p (x.getD i d) (y.getD i e)&&_,())
  cases p (x.getD i d) (y.getD i e)<;>rfl
theorem A9l {α γ:Type} {p:α→γ→Bool}:∀ {x:List α} {y:List γ},¬ x.length=y.length→By1 p x y=false
 | [],[],h=>absurd rfl h
 | [],_ :: _,_=>rfl
 | _ :: _,[],_=>rfl
 | a :: as,b :: bs,h=>by
  show (p a b&&By1 p as bs)=false
  rw[A9l (x:=as) (y:=bs) (by simpa using h),Bool.and_false]
theorem A4D {α:Type} {p:α→α→Bool}:∀ {x y:List α},(∀ a ∈ x,∀ b ∈ y,p a b=eqC a b)→By1 p x y=eqC x y
 | [],[],_=>(A3w rfl).symm
 | [],_ :: _,_=>(A41 (by simp)).symm
 | _ :: _,[],_=>(A41 (by simp)).symm
 | a :: as,b :: bs,h=>by
  show (p a b&&By1 p as bs)=_
  rw[h a (Bg ..) b (Bg ..),A4D (fun c hc d hd=>h c (Ba _ hc) d (Ba _ hd)),A9n]
theorem A3m {α:Type} {x y:List α} (h:¬ x.length=y.length):eqC x y=false:=A41 fun e=>h (by rw[e])
theorem A1s {n m:Nat}:eqI (n:Int) (m:Int)=decide (n=m):=by
 rw[yU];exact decide_eq_decide.2 (by omega)
theorem Ah6 {α:Type} (b:Bool) {x y:α}:cond (!b) x y=cond b y x:=by cases b<;>rfl
theorem BR8 {α γ ρ:Type} (F:List γ→Int→Option ρ) (K:List γ→Option ρ) (v:List α) (d:α) (g:α→List γ) (A B:Nat) (hg:∀ x ∈ v,(g x).length≤B)
  (stop:∀ acc,acc.length≤A+B * v.length→F acc (v.length:Nat)=K acc)
  (step:∀ (acc:List γ) (i:Nat),i < v.length→acc.length≤A+B * i→F acc i=F (acc++g (v.getD i d)) ((i+1:Nat):Int)):
  ∀ (n i:Nat) (acc:List γ),v.length - i=n→i≤v.length→acc.length≤A+B * i→F acc i=K (acc++((v.drop i).map g).flatten)
 | 0,i,acc,hn,hi,ha=>by
  have:i=v.length:=by omega
  subst this
  rw[stop acc ha,As (Al _)];simp
 | n+1,i,acc,hn,hi,ha=>by
  have hlt:i < v.length:=by omega
  rw[step acc i hlt ha,BR8 F K v d g A B hg stop step n (i+1) _ (by omega) (by omega) (by
   have:=hg _ (xK (d:=d) hlt)
   rw[List.length_append,Nat.mul_succ];omega),yH (d:=d) hlt]
  simp
end Go.Rf

end
