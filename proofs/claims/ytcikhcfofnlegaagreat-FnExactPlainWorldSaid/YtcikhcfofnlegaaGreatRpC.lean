/- An interpreter of the code over plain data, proved right against the machine: part 3. No condition. -/
import Derived.Test.YtcikhcfofnlegaaGreatRpB
import Derived.OpenShut
import Derived.ChangeOld
import Derived.WalkKit
import Derived.ProofKit
import Derived.ShutString
import Derived.SizedLaws
import Derived.Test.YtcikhcfofnlegaaGreatRpA
open Option.some renaming injEq->Aa,inj->As
open List renaming getElem?_eq_getElem->Ab,map_cons->Ag,cons_append->Ah,mem_cons->Ai,getElem?_eq_some_iff->Ak,length->Au,mem_map->Aw,mem_singleton->Ax,mem_append->A2,getElem?_cons_zero->A4,mem_append_right->A7,mem_append_left->A9,getD_eq_getElem?_getD->AA,any_eq_true->AB,sum_cons->AF,nil_append->AH,append_cancel_left->AL,take_add_one->AM,drop_eq_nil_of_le->AN,getElem?_toArray->AO,getElem?_eq_none->AP,length_cons->AS,mem_of_getElem?->AU,map->AV,mem_map_of_mem->AY,getElem?_append_right->A',getElem?_append_left->Ba,append_assoc->Bc,all_eq_true->Be,length_eq_zero_iff->Bg,take_of_length_le->Bh,any_cons->Bj,all_cons->Bk,flatten_cons->Bm,map_nil->Bo,getElem?_set->Bs,take_length->Bu,mem_flatMap->Bv,mem_filter->Bz,append_nil->B0
open Option renaming bind_eq_some_iff->Ac,map_eq_some_iff->Ae,getD_some->AR,filter->AT,map_some->AW,bind_some->Bf,bind_assoc->Bq
open Bool renaming and_eq_true->Ad,not_eq_true'->Am,or_eq_true->Bi,false_eq_true->Bl,false_or->B3
open List.cons renaming injEq->Af
open Array renaming getD_eq_getD_getElem?->Aj,getElem?_eq_getElem->Ay,getElem?_eq_some_iff->A0,getElem?_toList->AQ,replicate->AX,getElem?_replicate->Bd,all_toList->Bt,toList_inj->Bx
open Nat renaming zero_le->Al,le_refl->Ao,beq->Ap,eq_of_beq_eq_true->Av,min_eq_right->Az,min_eq_left->A1,lt_or_ge->A3,le_max_right->A5,zero_add->AC,le_max_left->AJ,lt_of_lt_of_le->AK,testBit->Bb,lt_trichotomy->Bn,beq_eq->B1
open _root_ renaming if_neg->Aq,if_pos->Ar,cond_false->A6,decide_eq_true_eq->A8,cond_true->AD,decide_eq_false->AG,if_true->AI,decide_eq_true->AZ,congrArg->Bp
open Prod.mk renaming injEq->At
open Go.Region renaming wanted->AE,binds->B4
open Go.IntKind renaming wrap->Br
open Go.Deferred renaming ofValue->Bw
open Go.Op renaming operands->By
open Go.Addr renaming add->B2
set_option linter.unusedVariables false
set_option linter.unusedSimpArgs false
section
namespace Go.Rf
set_option linter.unusedSectionVars false
variable [T:Laid]
def cf:List Bool→Nat
 | []=>0
 | b :: l=>(if b then 0 else 1)+cf l
theorem A9F:∀ {l:List Bool} {i:Nat},l[i]?=some false→cf (l.set i true)+1=cf l
 | [],_,h=>by simp at h
 | b :: l,0,h=>by simp only[A4,Aa] at h;subst h;simp[cf];omega
 | b :: l,i+1,h=>by simp only[List.set_cons_succ,cf];have:=A9F (l:=l) (i:=i) (by simpa using h);omega
theorem A5L:∀ {l:List Bool} {i:Nat},cf l=0→l[i]?≠some false
 | [],_,_=>by simp
 | b :: l,0,h=>by
  simp only[cf] at h
  simp only[A4,ne_eq,Aa]
  intro e;subst e;simp at h
 | b :: l,i+1,h=>by
  simp only[cf] at h
  simpa using A5L (l:=l) (i:=i) (by omega)
theorem A5x {L:Nat→Bool}:∀ {uss:List (List Up)} {k:Nat},(∀ j,j < uss.length→L (k+j)=true)→sel L uss k=uss.flatten
 | [],_,_=>rfl
 | us :: r,k,h=>by
  simp only[sel,Bm]
  rw[Ar (by simpa using h 0 (by simp)),A5x fun j hj=>by
   have:=h (j+1) (by simp;omega)
   rw[show k+(j+1)=k+1+j by omega] at this
   exact this]
section
variable {P:Program} {H:Nat→Option (List Value)} {N:Nat} {g:zW} {V:Nat→Option Value} {w w':World} {S S':Nat→Prop} {β β':Key→Option Nat} {a:Act}
variable {E:Env} {R:Run E}
theorem Rel.heap (h:Rel H N g V w S β) (hw:w'.heap=w.heap) (hD:yD N g):Rel H N g V w' S β:=by
 have h1:Rel H N (g.up (.put N .dead)) V w' S β:=h.put ⟨h.sane.inj,h.sane.sep,fun k b hk=>by rw[hw];exact h.sane.live k b hk,fun b hk=>by rw[hw];exact h.sane.liveS b hk,h.sane.tabs fun b hb=>⟨hb,by rw[hw]⟩⟩
  (fun b hb=>⟨hb,by rw[hw]⟩) (fun _ _ _ _ _ hb=>⟨hb,by rw[hw]⟩) (fun _ _=>rfl) trivial
 exact h1.fin (fun i hi=>(rF (by omega)).symm) hD (fun _ _=>rfl)
theorem A3p {l l':List Slot} {fp:List Nat} (h:∀ x ∈ fp,at? l x=at? l' x):tX l fp=tX l' fp:=by
 funext i
 unfold tX
 by_cases hi:(fp.any (Ap i ·))=true
 ·rw[Ar hi,Ar hi]
  obtain⟨x,hx,e⟩:=AB.1 hi
  have:i=x:=by simpa[B1] using e
  rw[this];exact h x hx
 ·rw[Aq hi,Aq hi]
theorem Ac6 {ops:List Oper} {listed:Array Bool} {i:Nat}:i ∈ Region.ready .any ops.toArray listed↔∃ o,ops[i]?=some o∧listed.getD i true=false∧∀ e ∈ o.after.toList,B4 .any e=true→listed.getD e.on false=true:=by
 unfold Region.ready
 rw[Bz,List.mem_range]
 constructor
 ·rintro⟨h1,h2⟩
  have h1:i < ops.length:=by simpa using h1
  simp only[AO,Ab h1,AW,AR,Ad,Am] at h2
  refine⟨_,Ab h1,h2.1,fun e he hb=>?_⟩
  have h3:=h2.2
  rw[← Bt] at h3
  have:=Be.1 h3 e he
  rw[hb] at this
  simpa using this
 ·rintro⟨o,h1,h2,h3⟩
  have hl:i < ops.length:=(Ak.1 h1).1
  refine⟨by simpa using hl,?_⟩
  simp only[AO,h1,AW,AR,Ad,Am]
  refine⟨h2,?_⟩
  rw[← Bt]
  refine Be.2 fun e he=>?_
  cases hb:B4 .any e with
  | true=>simp[h3 e he hb]
  | false=>rfl
theorem A3D {listed:Array Bool} {i:Nat} (h:listed.getD i true=false):i < listed.size∧listed.getD i false=false:=by
 rw[Aj] at h ⊢
 cases hb:listed[i]? with
 | none=>rw[hb] at h;simp at h
 | some b=>
  rw[hb] at h
  simp only[AR] at h
  exact⟨(A0.1 hb).1,by simp[h]⟩
theorem A3Y {listed:Array Bool} {i:Nat} (hi:i < listed.size) (h:listed.getD i false=false):listed.getD i true=false:=by
 rw[Aj,Ay hi] at h ⊢
 exact h
theorem Ao2 {listed:Array Bool} {i j:Nat} (hi:i < listed.size):(listed.setIfInBounds i true).getD j false=(decide (j=i)|| listed.getD j false):=by
 rw[Aj,Aj,Array.getElem?_setIfInBounds]
 by_cases e:i=j
 ·subst e;simp[hi]
 ·simp[e,Ne.symm e]
theorem A5Z {ops:List Oper} {listed:Array Bool} (hs:listed.size=ops.length) (he:bX ops 0=true) (h:Region.ready .any ops.toArray listed=[]):∀ i,i < ops.length→listed.getD i false=true:=by
 intro i
 induction i using Nat.strongRecOn with
 | ind i ih=>
  intro hi
  cases hb:listed.getD i false with
  | true=>rfl
  | false=>
   have:i ∈ Region.ready .any ops.toArray listed:=Ac6.2 ⟨ops[i],Ab hi,A3Y (by omega) hb,fun e h1 hbd=>by
    have:=Aq0 he (Ab hi) h1 hbd
    exact ih e.on (by omega) (by omega)⟩
   rw[h] at this;cases this
theorem A16 {uss:List (List Up)} {rcs:List Rec} {L:Nat→Bool} {b:List Nat} {i:Nat} {rc:Rec} (hn:uss.length=rcs.length) (hw:∀ (j:Nat) us q,uss[j]?=some us→rcs[j]?=some q→q.wr=us.map Up.slot)
  (hsp:∀ i j r q,i < j→rcs[i]?=some r→rcs[j]?=some q→Bb (b.getD j 0) i=true∨BO3 r q)
  (hcl:∀ j m,L j=true→Bb (b.getD j 0) m=true→L m=true) (hci:∀ m,Bb (b.getD i 0) m=true→L m=true) (hL:L i=false) (hrc:rcs[i]?=some rc)
  {x:Nat} (hx:x ∈ rc.fp∨x ∈ rc.wr):∀ (j:Nat) us,uss[j]?=some us→(∃ u ∈ us,u.slot=x)→L j=decide (j < i):=by
 intro j us hj hu
 have hjl:j < uss.length:=(Ak.1 hj).1
 obtain⟨q,hq⟩:∃ q,rcs[j]?=some q:=⟨_,Ab (by omega)⟩
 have hxq:x ∈ q.wr:=by
  rw[hw j us q hj hq]
  obtain⟨u,h1,h2⟩:=hu
  exact Aw.2 ⟨u,h1,h2⟩
 rcases Bn j i with h|h|h
 ·rw[AZ h]
  rcases hsp j i q rc h hq hrc with h1|⟨h1,h2,h3,_,_⟩
  ·exact hci j h1
  ·rcases hx with hx|hx
   ·exact absurd hx (h1 x hxq)
   ·exact absurd hx (h2 x hxq)
 ·subst h;simpa using hL
 ·rw[AG (by omega)]
  cases hb:L j with
  | false=>rfl
  | true=>
   rcases hsp i j rc q h hrc hq with h1|⟨h1,h2,h3,_,_⟩
   ·rw[hcl j i hb h1] at hL;cases hL
   ·rcases hx with hx|hx
    ·exact absurd hx (h3 x hxq)
    ·exact absurd hxq (h2 x hx)
theorem Aj8 {l:List Slot} {x:Nat} (h:l.length≤x):at? l x=Slot.dead:=by
 unfold at?;simp[List.getD,AP h]
def PO (t:Ty) (k:Nat) (s:Slot):Prop:=Ak7 s.sv=some t∧s.s=k
theorem A2M {x:Nat}:∀ {us:List Up} {s:Slot},us.any (Ap9 x)=false→(oX x s us).s=s.s
 | [],_,_=>rfl
 | u :: us,s,h=>by
  rw[Bj,Bool.or_eq_false_iff] at h
  simp only[oX]
  rw[A2M h.2]
  split
  ·rename_i hx
   cases u with
   | put r v=>
    have:Ap x r=true:=by rw[show x=r from hx];exact Nat.beq_refl r
    rw[show Ap9 x (.put r v)=Ap x r from rfl,this] at h
    exact absurd h.1 (by decide)
   | mod r v=>rfl
   | pub r v=>rfl
  ·rfl
theorem Am8 {x:Nat}:∀ {us:List Up} {s s':Slot},x ∈ us.map Up.slot→(oX x s us).sv=(oX x s' us).sv
 | [],_,_,h=>by cases h
 | u :: us,s,s',h=>by
  simp only[oX]
  by_cases hm:x ∈ us.map Up.slot
  ·exact Am8 hm
  ·have hx:x=u.slot:=by
    rw[Ag,Ai] at h
    exact h.resolve_right hm
   have hq:∀ v ∈ us,v.slot≠x:=fun v hv e=>hm (e▸AY hv)
   rw[Ar hx,Ar hx,lB hq,lB hq]
   cases u<;>rfl
theorem A2k {x:Nat} {t:Ty} {k:Nat} {us:List Up} {l:List Slot} (hl:x < l.length) (hb:x ∉ bQ l us):
  (PO t k (at? l x)↔PO t k (at? (oQ l us) x))∧(PO t k (at? l x)→∀ s,PO t k s→PO t k (oX x s us)):=by
 rw[nN hl]
 by_cases hm:x ∈ us.map Up.slot
 ·have he:AX0 l us x=true:=by
   cases he:AX0 l us x with
   | true=>rfl
   | false=>exact absurd (Bz.2 ⟨hm,by rw[he];rfl⟩) hb
  unfold AX0 at he
  rw[Ad,nN hl] at he
  have hp:us.any (Ap9 x)=false:=by simpa using he.1
  have he2:=he.2
  split at he2
  ·rename_i a b e1 e2
   have hab:a=b:=of_decide_eq_true he2
   subst hab
   refine⟨?_,fun h s hs=>?_⟩
   ·unfold PO
    rw[A2M hp,e1,e2]
   ·refine⟨?_,by rw[A2M hp];exact hs.2⟩
    rw[Am8 (s':=at? l x) hm,e2,← e1];exact h.1
  ·cases he2
 ·have hn:∀ s,oX x s us=s:=fun s=>lB (fun v hv e=>hm (e▸AY hv))
  rw[hn]
  exact⟨Iff.rfl,fun _ s hs=>by rw[hn];exact hs⟩
theorem Av4 {x:Nat} {t:Ty} {k:Nat}:∀ {uss:List (List Up)} {l:List Slot} {i:Nat},x < l.length→(∀ j us,uss[j]?=some us→x ∉ bQ (oQ l (uss.take j).flatten) us) →
  PO t k (at? (oQ l (uss.take i).flatten) x)→PO t k (at? l x)
 | [],l,i,_,_,h=>by simpa[oQ] using h
 | us :: uss,l,0,_,_,h=>by simpa[oQ] using h
 | us :: uss,l,i+1,hl,hb,h=>by
  have h0:x ∉ bQ l us:=by have:=hb 0 us rfl;simpa[oQ] using this
  refine (A2k hl h0).1.2 (Av4 (uss:=uss) (l:=oQ l us) (i:=i) (by rw[rG];exact hl) (fun j us' hj=>?_) ?_)
  ·have:=hb (j+1) us' (by simpa using hj)
   simpa[oZ] using this
  ·simpa[oZ] using h
theorem A21 {x:Nat} {t:Ty} {k:Nat} {L:Nat→Bool}:∀ {uss:List (List Up)} {l:List Slot} {kk:Nat},x < l.length→(∀ j us,uss[j]?=some us→x ∉ bQ (oQ l (uss.take j).flatten) us) →
  PO t k (at? l x)→∀ s,PO t k s→PO t k (oX x s (sel L uss kk))
 | [],l,kk,_,_,_,s,hs=>hs
 | us :: uss,l,kk,hl,hb,h,s,hs=>by
  have h0:x ∉ bQ l us:=by have:=hb 0 us rfl;simpa[oQ] using this
  obtain⟨h1,h2⟩:=A2k (t:=t) (k:=k) hl h0
  simp only[sel]
  rw[nF]
  refine A21 (uss:=uss) (l:=oQ l us) (by rw[rG];exact hl) (fun j us' hj=>?_) (h1.1 h) _ ?_
  ·have:=hb (j+1) us' (by simpa using hj)
   simpa[oZ] using this
  ·split
   ·exact h2 h s hs
   ·exact hs
theorem mT {l:List Slot} {fp:List Nat} {s:Nat} (h:s ∈ fp):tX l fp s=at? l s:=by
 unfold tX
 rw[Ar]
 exact AB.2 ⟨s,h,by simp⟩
theorem A9w {l l':List Slot} {fp fp':List Nat} {mv:Bool} {o:Oper} {x:Operand} {s:Nat} {us:List Up} (hm:o.op=.move x) (hs:AH1 (at? l) mv x=some s) (hk:opK E R mv (tX l fp) o some=some us) (h1:s ∈ fp) (h2:s ∈ fp')
  {t:Ty} (hp:PO t (at? l s).s (at? l' s)):opK E R mv (tX l' fp') o some=some us:=by
 unfold AH1 at hs
 split at hs
 ·rename_i s0
  split at hs
  ·rename_i hc
   cases hs
   simp only[Ad] at hc
   have e1:AH1 (tX l fp) mv (.tmp s)=some s:=by
    unfold AH1
    simp only
    rw[mT h1,Ar (by simp[hc.1,hc.2])]
   have e2:AH1 (tX l' fp') mv (.tmp s)=some s:=by
    unfold AH1
    simp only
    rw[mT h2,Ar (by simp[hc.1,hp.1])]
   unfold opK at hk ⊢
   rw[hm] at hk ⊢
   simp only at hk ⊢
   unfold A2T at hk ⊢
   rw[e1] at hk
   rw[e2]
   simp only at hk ⊢
   rw[mT h1] at hk
   rw[mT h2,hp.2]
   exact hk
  ·cases hs
 ·cases hs
theorem BB3 {l:List Slot} {o:Oper} {mv:Bool} {x:Operand} {s:Nat} (hm:o.op=.move x) (hs:AH1 (at? l) mv x=some s):s ∈ Ad7 o l:=by
 unfold AH1 at hs
 split at hs
 ·split at hs
  ·cases hs
   unfold Ad7
   rw[hm]
   simp[By,AE5]
  ·cases hs
 ·cases hs
theorem A9j (u:Up) (a:Slot):(u.on a).sv=u.v:=by cases u<;>rfl
def FP (k:Nat) (v:SV):Option Dat:=
 match v with
 | .tup d=>(yJ (zG k) d.t d.f d.x).filter (·.f.free)
 | _=>none
theorem BL8:∀ {i k:Nat} {t:Ty} {f:Fl} {x:t.D} {e:Dat},yJ (zG i) t f x=some e→e.f.free=false →
  (yJ (zG k) t (kD (zG i) f .gone) x).filter (·.f.free)=(yJ (zG k) t f x).filter (·.f.free):=by
 intro i
 induction i with
 | zero=>
  intro k t f x e h hf
  cases t<;>try (simp only[zG,yJ,reduceCtorEq] at h;done)
  rename_i a b
  simp only[zG,yJ,Aa] at h
  cases k with
  | zero=>
   simp only[zG,yJ,kD]
   rw[mQ,uC,← mQ,Aj2]
   subst h
   simp only at hf
   show AT _ (some _)=AT _ (some _)
   simp only[AT]
   rw[Aq (show ¬ Fl.free .gone=true by decide),Aq (by rw[hf];decide)]
  | succ k=>
   simp only[zG,yJ,kD]
   rw[mO,uC,← mO,A25]
 | succ i ih=>
  intro k t f x e h hf
  cases t<;>try (simp only[zG,yJ,reduceCtorEq] at h;done)
  rename_i a b
  simp only[zG,yJ] at h
  cases k with
  | zero=>
   simp only[zG,yJ,kD]
   rw[mQ,uC,← mQ,Aj2]
  | succ k=>
   simp only[zG,yJ,kD]
   rw[mO,uC,← mO,A25]
   exact ih h hf
theorem Ao9 {o:Oper} {x:Nat} (h:BA3 o x=true):∃ i d,o.op=.extract (.tmp x) i∧o.dst=some d∧x≠d:=by
 unfold BA3 at h
 split at h
 ·rename_i s0 i d hop hd
  simp only[Ad,Am,B1] at h
  obtain⟨h1,h2⟩:=h
  subst h1
  exact⟨i,d,hop,hd,fun e=>by subst e;simp at h2⟩
 ·cases h
theorem A9p {l:List Slot} {fp:List Nat} {mv:Bool} {o:Oper} {us:List Up} {x:Nat} (hk:opK E R mv (tX l fp) o some=some us) (hx:BA3 o x=true) (hfp:x ∈ fp) (hm:x ∈ us.map Up.slot) (k:Nat) (s:Slot):
  FP k (oX x s us).sv=FP k (at? l x).sv:=by
 obtain⟨i,d,hop,hd,hne⟩:=Ao9 hx
 unfold opK at hk
 rw[hop] at hk
 simp only at hk
 unfold gV at hk
 simp only at hk
 rw[mT hfp] at hk
 split at hk
 ·rename_i t ht
  split at hk
  ·rename_i e he
   split at hk
   ·unfold rW at hk
    rw[hd] at hk
    simp only[AH,Aa] at hk
    subst hk
    simp only[Ag,Bo,Ax,Up.slot] at hm
    exact absurd hm hne
   ·rename_i hnf
    split at hk
    ·unfold rW at hk
     rw[hd] at hk
     simp only[Aa] at hk
     subst hk
     simp only[Ah,AH,oX,Up.slot,Aq hne,AI]
     rw[A9j,ht]
     exact BL8 he (by simpa using hnf)
    ·cases hk
  ·cases hk
 ·cases hk
theorem BP3 {l l':List Slot} {fp fp':List Nat} {mv:Bool} {o:Oper} {s:Nat} {us:List Up} (hex:AI5 l o=[s]) (hk:opK E R mv (tX l fp) o some=some us) (h1:s ∈ fp) (h2:s ∈ fp')
  (heq:∀ k,FP k (at? l' s).sv=FP k (at? l s).sv):opK E R mv (tX l' fp') o some=some us:=by
 unfold AI5 at hex
 split at hex
 ·rename_i s0 i hop
  split at hex
  ·rename_i d hd
   split at hex
   ·rename_i e he
    split at hex
    ·rename_i hf
     simp only[Af,and_true] at hex
     subst hex
     have hq:=heq i
     rw[hd] at hq
     have e1:FP i (.tup d)=some e:=by unfold FP;simp only;rw[he];simp[AT,hf]
     rw[e1] at hq
     unfold FP at hq
     split at hq
     ·rename_i d2 hd2
      obtain⟨e2,hg,hq2⟩:∃ e2,yJ (zG i) d2.t d2.f d2.x=some e2∧e2=e:=by
       cases hg:yJ (zG i) d2.t d2.f d2.x with
       | none=>rw[hg] at hq;cases hq
       | some e2=>
        rw[hg] at hq
        refine⟨e2,rfl,?_⟩
        simp only[AT] at hq
        split at hq
        ·exact As hq
        ·cases hq
      subst hq2
      unfold opK at hk ⊢
      rw[hop] at hk ⊢
      simp only at hk ⊢
      unfold gV at hk ⊢
      simp only at hk ⊢
      rw[mT h1,hd] at hk
      rw[mT h2,hd2]
      simp only at hk ⊢
      rw[he] at hk
      rw[hg]
      simp only at hk ⊢
      rw[Ar hf] at hk ⊢
      exact hk
     ·cases hq
    ·cases hex
   ·cases hex
  ·cases hex
 ·cases hex
theorem A5F {l:List Slot} {o:Oper} {s:Nat} (hex:AI5 l o=[s]):s ∈ Ad7 o l∧s < l.length:=by
 unfold AI5 at hex
 split at hex
 ·rename_i s0 i hop
  split at hex
  ·rename_i d hd
   split at hex
   ·split at hex
    ·simp only[Af,and_true] at hex
     subst hex
     refine⟨by unfold Ad7;rw[hop];simp[By,AE5],?_⟩
     rcases A3 s0 l.length with h|h
     ·exact h
     ·rw[Aj8 h] at hd;cases hd
    ·cases hex
   ·cases hex
  ·cases hex
 ·cases hex
theorem A3C {L:Nat→Bool} {us:List Up}:∀ {uss:List (List Up)} {k:Nat},sel L (uss++[us]) k=sel L uss k++(if L (k+uss.length) then us else [])
 | [],k=>by simp[sel]
 | v :: uss,k=>by
  simp only[Ah,sel,AS]
  rw[A3C (uss:=uss) (k:=k+1),Bc,show k+1+uss.length=k+(uss.length+1) by omega]
theorem BH6 {x k i:Nat} {l:List Slot} {uss:List (List Up)} {L:Nat→Bool} {tw:Nat→Prop} (hl:x < l.length)
  (hX:∀ j us,uss[j]?=some us→x ∈ us.map Up.slot→¬ tw j→∀ s,FP k (oX x s us).sv=FP k (at? (oQ l (uss.take j).flatten) x).sv)
  (hW:∀ j,j < uss.length→tw j→L j=decide (j < i)) (hC:∀ j j' us,j' < j→tw j'→uss[j]?=some us→x ∈ us.map Up.slot→L j=true→L j'=true):
  FP k (at? (oQ l (sel L uss 0)) x).sv=FP k (at? (oQ l (uss.take i).flatten) x).sv:=by
 have hT:∀ n us,uss[n]?=some us→at? (oQ l (uss.take (n+1)).flatten) x=oX x (at? (oQ l (uss.take n).flatten) x) us:=fun n us hu=>by
  rw[AM,hu,List.flatten_append,oZ,nN (by rw[rG];exact hl)]
  simp
 have none_:∀ us,x ∉ us.map Up.slot→∀ s,oX x s us=s:=fun us hn s=>lB fun v hv e=>hn (e▸AY hv)
 have qU:∀ n,i≤n→n≤uss.length→(∀ j,i≤j→j < n→¬ tw j)→FP k (at? (oQ l (uss.take n).flatten) x).sv=FP k (at? (oQ l (uss.take i).flatten) x).sv:=by
  intro n
  induction n with
  | zero=>intro h _ _;rw[Nat.le_zero.1 h]
  | succ n ih=>
   intro h1 h2 h3
   rcases A3 i (n+1) with h|h
   ·have hu:uss[n]?=some uss[n]:=Ab (by omega)
    rw[hT n _ hu,← ih (by omega) (by omega) fun j a b=>h3 j a (by omega)]
    by_cases hx:x ∈ (uss[n]).map Up.slot
    ·exact hX n _ hu hx (h3 n (by omega) (by omega)) _
    ·rw[none_ _ hx]
   ·rw[show i=n+1 by omega]
 have key:∀ n,n≤uss.length→FP k (oX x (at? l x) (sel L (uss.take n) 0)).sv=FP k (at? (oQ l (uss.take (min n i)).flatten) x).sv:=by
  intro n
  induction n with
  | zero=>intro _;simp[sel,oX,oQ]
  | succ n ih=>
   intro hn
   have hu:uss[n]?=some uss[n]:=Ab (by omega)
   have ih:=ih (by omega)
   have e1:sel L (uss.take (n+1)) 0=sel L (uss.take n) 0++(if L n then uss[n] else []):=by
    rw[AM,hu]
    show sel L (uss.take n++[uss[n]]) 0=_
    rw[A3C,List.length_take,AC,A1 (by omega)]
   rw[e1,nF]
   by_cases hx:x ∈ (uss[n]).map Up.slot
   ·by_cases ht:tw n
    ·have hL:=hW n (by omega) ht
     rcases A3 n i with h|h
     ·rw[AZ h] at hL
      rw[hL,Ar rfl,A1 (show n+1≤i by omega),hT n _ hu,Am8 hx]
     ·rw[AG (by omega)] at hL
      rw[hL,Aq (by decide),Az (show i≤n+1 by omega)]
      rw[Az h] at ih
      exact ih
    ·have hf:=hX n _ hu hx ht
     rcases A3 n i with h|h
     ·rw[A1 (show n+1≤i by omega),hT n _ hu,hf]
      rw[A1 (show n≤i by omega)] at ih
      split
      ·rw[hf]
      ·exact ih
     ·rw[Az (show i≤n+1 by omega)]
      rw[Az h] at ih
      split
      ·rename_i hL
       rw[hf]
       refine qU n h (by omega) fun j a b htj=>?_
       have h1:=hC n j _ b htj hu hx hL
       rw[hW j (by omega) htj,AG (by omega)] at h1
       cases h1
      ·exact ih
   ·have e2:oX x (oX x (at? l x) (sel L (uss.take n) 0)) (if L n then uss[n] else [])=oX x (at? l x) (sel L (uss.take n) 0):=by
     split
     ·exact none_ _ hx _
     ·rfl
    rw[e2,ih]
    rcases A3 n i with h|h
    ·rw[A1 (show n+1≤i by omega),A1 (show n≤i by omega),hT n _ hu,none_ _ hx]
    ·rw[Az (show i≤n+1 by omega),Az h]
 have h0:=key uss.length (Ao _)
 rw[Bu] at h0
 rw[nN hl,h0]
 rcases Nat.le_total i uss.length with h|h
 ·rw[Az h]
 ·rw[A1 h,Bh h,Bu]
theorem A9s (hR:AG7 E R) (hm:E.P.follows .mixedOrders=true):A0B E R:=by
 intro ρ H mv ops id l a w S β κ r Q hl hrel hin hk hQ
 obtain⟨uss,rcs,hu,hrc,hκ,⟨hap,hnb⟩,hed,hst⟩:=Ah7 hk
 simp only[AH] at hap hnb
 have hsp:=Ah3 hap
 simp only[AC] at hsp hst
 have hwr:∀ (j:Nat) us q,uss[j]?=some us→rcs[j]?=some q→q.wr=us.map Up.slot:=fun j us q h1 h2=>by
  have hj:j < ops.length:=by have:=(Ak.1 h1).1;omega
  exact (hst j ops[j] us q (Ab hj) h1 h2).1
 refine wp_region_any hm ?_
 have hw1:Rel H a.tmps.size (at? l) (qD a) { w with drawn:=w.drawn+1 } S β:=hrel.heap rfl (hl▸A7Y)
 have hs1:Step w S β { w with drawn:=w.drawn+1 } S β:=⟨Ao _,fun _ _ _=>rfl,fun k _ hb=>.inl ⟨k,hb⟩,fun _ hb=>hb,fun _ hb=>.inl hb,⟨rfl,rfl,rfl⟩⟩
 have hn:ops.toArray.size=ops.length:=by simp
 have fin:∀ (listed:Array Bool) (a':Act) (w':World) (S':Nat→Prop) (β':Key→Option Nat),(∀ i,i < ops.length→listed.getD i false=true)→a'.tmps.size=a.tmps.size→a'.defers=a.defers →
   Rel H a.tmps.size (at? (oQ l (sel (fun i=>listed.getD i false) uss 0))) (qD a') w' S' β'→Step w S β w' S' β'→Q .normal a' w':=by
  intro listed a' w' S' β' hall e1 e2 hr hstep
  have hlast:=A5x (L:=fun i=>listed.getD i false) (uss:=uss) (k:=0) (fun j hj=>by rw[AC];exact hall j (by omega))
  exact hQ _ a' w' S' β' (by rw[rG];exact hl) (by rw[← hlast] at hκ;exact hκ) e1 e2 hr hstep
 have key:∀ (fuel:Nat) (listed:Array Bool) (a':Act) (w':World) (S':Nat→Prop) (β':Key→Option Nat),listed.size=ops.length→cf listed.toList=fuel →
   (∀ i m,listed.getD i false=true→Bb ((AJ3 ops).getD i 0) m=true→listed.getD m false=true)→a'.tmps.size=a.tmps.size→a'.defers=a.defers →
   Rel H a.tmps.size (at? (oQ l (sel (fun i=>listed.getD i false) uss 0))) (qD a') w' S' β'→Step w S β w' S' β'→wpAny E.P .any ops.toArray Q fuel listed a' w':=by
  intro fuel
  induction fuel with
  | zero=>
   intro listed a' w' S' β' hsz hcf hcl e1 e2 hr hstep
   have hall:∀ i,i < ops.length→listed.getD i false=true:=fun i hi=>by
    have h1:=A5L (l:=listed.toList) (i:=i) hcf
    have h2:i < listed.size:=by omega
    rw[AQ,Ay h2] at h1
    simp only[Aj,Ay h2,AR]
    cases hb:listed[i] with
    | true=>rfl
    | false=>rw[hb] at h1;exact absurd rfl h1
   refine⟨?_,fin listed a' w' S' β' hall e1 e2 hr hstep⟩
   apply List.eq_nil_iff_forall_not_mem.2
   intro i hi
   obtain⟨o,h1,h2,_⟩:=Ac6.1 hi
   have:=hall i (Ak.1 h1).1
   rw[(A3D h2).2] at this;cases this
  | succ fuel ih=>
   intro listed a' w' S' β' hsz hcf hcl e1 e2 hr hstep
   refine⟨fun hnil=>fin listed a' w' S' β' (A5Z hsz hed hnil) e1 e2 hr hstep,fun i hi=>?_⟩
   obtain⟨o,ho,hli,hedge⟩:=Ac6.1 hi
   obtain⟨hilt,hLi⟩:=A3D hli
   obtain⟨us,hus⟩:∃ us,uss[i]?=some us:=⟨_,Ab (by omega)⟩
   obtain⟨rc,hrci⟩:∃ rc,rcs[i]?=some rc:=⟨_,Ab (by omega)⟩
   obtain⟨hwi,_,_,_,hst'⟩:=hst i o us rc ho hus hrci
   have hci:∀ m,Bb ((AJ3 ops).getD i 0) m=true→listed.getD m false=true:=fun m hm=>by
    obtain⟨e,e1,e2,_,e4⟩:=A3g hed ho hm
    have:=hedge e e1 e2
    rcases e4 with e4|e4
    ·rw[← e4];exact this
    ·exact hcl e.on m this e4
   have hag:∀ {x:Nat},x ∈ rc.fp∨x ∈ rc.wr→∀ (j:Nat) us,uss[j]?=some us→(∃ u ∈ us,u.slot=x)→listed.getD j false=decide (j < i):=fun {x} hx=>
    A16 (L:=fun i=>listed.getD i false) (by omega) hwr hsp hcl hci hLi hrci hx
   have hat:∀ x,x ∈ rc.fp∨x ∈ rc.wr→at? (oQ l (sel (fun i=>listed.getD i false) uss 0)) x=at? (oQ l (uss.take i).flatten) x:=fun x hx=>by
    by_cases hlen:x < l.length
    ·rw[nN hlen,nN hlen]
     rw[AI9 (L:=fun i=>listed.getD i false) (M:=fun j=>decide (j < 0+i)) (fun j us hj hu=>by simp only[AC];exact hag hx j us hj hu),As5]
    ·rw[Aj8 (by rw[rG];omega),Aj8 (by rw[rG];omega)]
   have hat':∀ x,at? (oQ (oQ l (sel (fun i=>listed.getD i false) uss 0)) us) x=at? (oQ l (sel (fun j=>(listed.setIfInBounds i true).getD j false) uss 0)) x:=fun x=>by
    by_cases hlen:x < l.length
    ·rw[nN (by rw[rG];exact hlen),nN hlen,nN hlen]
     by_cases ht:∃ u ∈ us,u.slot=x
     ·have hx:x ∈ rc.wr:=by
       rw[hwi]
       obtain⟨u,h1,h2⟩:=ht
       exact Aw.2 ⟨u,h1,h2⟩
      rw[AI9 (L:=fun i=>listed.getD i false) (M:=fun j=>decide (j < 0+i)) (fun j us hj hu=>by simp only[AC];exact hag (.inr hx) j us hj hu),As5,← nF,
       AI9 (L:=fun j=>(listed.setIfInBounds i true).getD j false) (M:=fun j=>decide (j < 0+(i+1))) (fun j us' hj hu=>by
        simp only[AC]
        rw[Ao2 hilt,hag (.inr hx) j us' hj hu,← Bool.decide_or]
        exact decide_eq_decide.2 (by omega)),As5,AM,hus]
      simp
     ·rw[lB fun u hu e=>ht ⟨u,hu,e⟩]
      exact AI9 fun j us' hj hu=>by
       simp only[AC]
       rw[Ao2 hilt]
       by_cases e:j=i
       ·subst e;rw[hj] at hus;cases hus;exact absurd hu ht
       ·simp[e]
    ·rw[Aj8 (by rw[rG,rG];omega),Aj8 (by rw[rG];omega)]
   have next:∀ a'' w'' S'' β'',a''.tmps.size=a.tmps.size→a''.defers=a.defers→Rel H a.tmps.size (at? (oQ (oQ l (sel (fun i=>listed.getD i false) uss 0)) us)) (qD a'') w'' S'' β''→Step w S β w'' S'' β'' →
     wpAny E.P .any ops.toArray Q fuel (listed.setIfInBounds i true) a'' w'':=by
    intro a'' w'' S'' β'' f1 f2 hr'' hstep''
    refine ih _ a'' w'' S'' β'' (by simpa using hsz) ?_ ?_ f1 f2 ?_ hstep''
    ·have:listed.toList[i]?=some false:=by
      rw[AQ,Ay hilt]
      rw[Aj,Ay hilt] at hLi
      simpa using hLi
     have:=A9F this
     rw[Array.toList_setIfInBounds];omega
    ·intro j m hj hm
     rw[Ao2 hilt] at hj ⊢
     by_cases e:j=i
     ·subst e;simp[hci m hm]
     ·simp only[e,decide_false,B3] at hj
      simp[hcl j m hj hm]
    ·rw[← funext hat'];exact hr''
   have hoin:=hin o (AU ho)
   have hlc:(oQ l (sel (fun i=>listed.getD i false) uss 0)).length=a'.tmps.size:=by rw[rG,hl,e1]
   unfold wpOp
   simp only[AO,ho]
   rcases hst' with ⟨hop,gs,hg,hfc⟩| ⟨j,want,g,h1,h2,h3,h4,h5⟩
   ·have hgs:∀ x,x ∈ gs→x ∈ rc.fp:=by
     rcases hfc with h|⟨h,_⟩| ⟨h,_⟩
     ·intro x hx;rw[h];exact A9 _ hx
     ·intro x hx;rw[h];exact hx
     ·intro x hx;rw[h];exact hx
    have hwant:AE o (yielded ops.toArray a'.tmps)=true:=by
     rcases hg with ⟨h,_⟩| ⟨j,want,g,h1,h2,h3,h4⟩
     ·simp[AE,h]
     ·have:=AG3 hr h2 (t:=want) (by rw[hat g (.inl (hgs g (by rw[h3];simp)))];exact h4)
      simp[AE,h1,this]
    rw[Ar hwant]
    left
    have hop:opK E R (mv.any (Ap i ·)) (tX (oQ l (sel (fun i=>listed.getD i false) uss 0)) (Ad7 o (oQ l (uss.take i).flatten))) o some=some us:=by
     rcases hfc with h|⟨h,x,s,hm,hs,hsf⟩| ⟨h,s,hex,hts⟩
     ·rw[A3p fun x hx=>hat x (.inl (by rw[h];exact A7 _ hx))];exact hop
     ·have hmem:=BB3 hm hs
      have hbads:∀ j us,uss[j]?=some us→s ∉ bQ (oQ l (uss.take j).flatten) us:=fun j us' hj hbad=>by
       have hjl:j < ops.length:=by have:=(Ak.1 hj).1;omega
       obtain⟨q,hq⟩:∃ q,rcs[j]?=some q:=⟨_,Ab (by omega)⟩
       have hb2:=(hst j ops[j] us' q (Ab hjl) hj hq).2.1 s hbad
       unfold A7w at hnb
       rw[eG.2 ⟨s,Bv.2 ⟨rc,AU hrci,by rw[hsf];simp⟩,Bv.2 ⟨q,AU hq,hb2⟩⟩] at hnb
       cases hnb
      have hps:∃ t,Ak7 (at? (oQ l (uss.take i).flatten) s).sv=some t:=by
       unfold AH1 at hs
       split at hs
       ·split at hs
        ·rename_i hc
         cases hs
         simp only[Ad] at hc
         exact Option.isSome_iff_exists.1 hc.2
        ·cases hs
       ·cases hs
      obtain⟨t,ht⟩:=hps
      have hlen:s < l.length:=by
       rcases A3 s l.length with h|h
       ·exact h
       ·rw[Aj8 (by rw[rG];exact h)] at ht;cases ht
      have hpi:PO t (at? (oQ l (uss.take i).flatten) s).s (at? (oQ l (uss.take i).flatten) s):=⟨ht,rfl⟩
      have hp0:=Av4 hlen hbads hpi
      refine A9w hm hs hop hmem hmem (t:=t) ?_
      have hfin:=A21 (L:=fun i=>listed.getD i false) (kk:=0) hlen hbads hp0 _ hp0
      rw[← nN hlen] at hfin
      exact hfin
     ·obtain⟨hmem,hlen⟩:=A5F hex
      rw[rG] at hlen
      refine BP3 hex hop hmem hmem fun k=>BH6 (i:=i) (tw:=fun j=>∃ q,rcs[j]?=some q∧s ∈ q.tw) hlen (fun j us' hj hx hn s'=>?_) (fun j hjl hw=>?_) fun j j' us' hjj hw hj hx hL=>?_
      ·have hjl:j < ops.length:=by have:=(Ak.1 hj).1;omega
       obtain⟨q,hq⟩:∃ q,rcs[j]?=some q:=⟨_,Ab (by omega)⟩
       obtain⟨_,_,_,h4,h5⟩:=hst j ops[j] us' q (Ab hjl) hj hq
       have he:=(h4 s hx).resolve_left fun h=>hn ⟨q,hq,h⟩
       rcases h5 with ⟨ho',_⟩| ⟨_,_,_,_,_,_,_,h6⟩
       ·refine A9p ho' he ?_ hx k s'
        obtain⟨i0,d0,e0,_,_⟩:=Ao9 he
        unfold Ad7;rw[e0];simp[By,AE5]
       ·exfalso
        obtain⟨i0,d0,_,e1,e2⟩:=Ao9 he
        rw[e1] at h6
        simp only at h6
        subst h6
        simp only[Ag,Bo,Ax,Up.slot] at hx
        exact e2 hx
      ·obtain⟨q,hq,hs⟩:=hw
       have hst2:s ∈ rc.ts:=by rw[hts];simp
       rcases Bn j i with h6|h6|h6
       ·rw[AZ h6]
        rcases hsp j i q rc h6 hq hrci with h1|⟨_,_,_,h1,_⟩
        ·exact hci j h1
        ·exact absurd hst2 (h1 s hs)
       ·subst h6;simpa using hLi
       ·rw[AG (by omega)]
        cases hb:listed.getD j false with
        | false=>rfl
        | true=>
         rcases hsp i j rc q h6 hrci hq with h1|⟨_,_,_,_,h1⟩
         ·rw[hcl j i hb h1] at hLi;cases hLi
         ·exact absurd hst2 (h1 s hs)
      ·obtain⟨q',hq',hs⟩:=hw
       have hjl:j < ops.length:=by have:=(Ak.1 hj).1;omega
       obtain⟨q,hq⟩:∃ q,rcs[j]?=some q:=⟨_,Ab (by omega)⟩
       have h6:s ∈ q.wr:=by rw[hwr j us' q hj hq];exact hx
       obtain⟨us2,hj2⟩:∃ us2,uss[j']?=some us2:=⟨_,Ab (by omega)⟩
       have h7:s ∈ q'.wr:=by
        rw[hwr j' us2 q' hj2 hq']
        exact (hst j' ops[j'] us2 q' (Ab (by omega)) hj2 hq').2.2.1 s hs
       rcases hsp j' j q' q hjj hq' hq with h1|⟨_,h1,_⟩
       ·exact hcl j j' hL h1
       ·exact absurd h6 (h1 s h7)
    refine A7L hR hlc (by rw[e1];exact hr) (by rw[e1];exact hoin) hop fun us' a'' w'' S'' β'' g0 g1 g2 g3 g4=>?_
    cases g0
    exact next a'' w'' S'' β'' (g1.trans e1) (g2.trans e2) (by rw[← e1];exact g3) (hstep.trans g4)
   ·have hv:=hat g (.inl (by rw[h3];simp))
    have hwant:AE o (yielded ops.toArray a'.tmps)=false:=by
     rcases h4 with h4|h4
     ·have:=AX5 hr h2 (by rw[hv];exact h4)
      simp[AE,h1,this]
     ·have:=AG3 hr h2 (t:=!want) (by rw[hv];exact h4)
      simp[AE,h1,this]
    rw[Aq (by rw[hwant];simp)]
    cases hd:o.dst with
    | some d=>
     rw[hd] at h5
     simp only at h5
     subst h5
     have hdN:=xF hoin hd
     refine next _ _ _ _ (wG.trans e1) (yN.trans e2) ?_ hstep
     have:=(show Rel H a'.tmps.size _ (qD a') w' S' β' by rw[e1];exact hr).unset hlc (d:=d) (by omega)
     rw[e1] at this;exact this
    | none=>
     rw[hd] at h5
     simp only at h5
     subst h5
     exact next _ _ _ _ e1 e2 hr hstep
 refine key _ _ a _ S β (by simp) ?_ ?_ rfl rfl ?_ hs1
 ·have:∀ n,cf (List.replicate n false)=n:=by
   intro n
   induction n with
   | zero=>rfl
   | succ n ih=>simp only[List.replicate_succ,cf,ih];simp;omega
  rw[Array.toList_replicate];exact this _
 ·intro i m hi
  exfalso
  simp[Aj,Bd] at hi
  split at hi<;>simp at hi
 ·have:∀ (uss:List (List Up)) (k:Nat),sel (fun i=>(AX ops.toArray.size false).getD i false) uss k=[]:=by
   intro uss
   induction uss with
   | nil=>intro k;rfl
   | cons us r ih=>
    intro k
    simp only[sel,ih (k+1),B0]
    rw[Aq]
    simp[Aj,Bd]
    split<;>simp
  rw[this];exact hw1
end
end Go.Rf

end
section
namespace Go.Rf
set_option linter.unusedSectionVars false
variable [T:Laid]
def noH:Nat→Option (List Value):=fun _=>none
theorem Aj1:∀ {f:Fl},f.nopin=true→f.pins=[]
 | .pin _ _,h=>by simp[Fl.nopin] at h
 | .sh,_|.gone,_|.own _,_|.pr _ _,_|.ar _,_=>rfl
theorem fS:∀ {f:Fl},f.nopin=true→f.base=f
 | .pin _ _,h=>by simp[Fl.nopin] at h
 | .sh,_|.gone,_|.own _,_|.pr _ _,_|.ar _,_=>rfl
theorem A00:∀ {f:Fl},f.nopin=true→f.l.nopin=true
 | .pin _ _,h=>by simp[Fl.nopin] at h
 | .pr _ _,h=>by simp only[Fl.nopin,Ad] at h;exact h.1
 | .sh,_|.gone,_|.own _,_|.ar _,_=>rfl
theorem A6O:∀ {f:Fl},f.nopin=true→f.r.nopin=true
 | .pin _ _,h=>by simp[Fl.nopin] at h
 | .pr _ _,h=>by simp only[Fl.nopin,Ad] at h;exact h.2
 | .sh,_|.gone,_|.own _,_|.ar _,_=>rfl
section
variable {S S':Nat→Prop} {β:Key→Option Nat} {H H':Nat→Option (List Value)} {w w':World}
theorem pW {f:Fl} {c:List Value} (hf:f.nopin=true):pN H f c:=fun k hk=>by rw[Aj1 hf] at hk;cases hk
theorem gR:∀ {t:Ty} {k:Key} {f:Fl} {x:t.D} {c:List Value},f.nopin=true→zN S β H w k t f x c→zN S β H' w k t f x c
 | .int _,_,_,_,_,hf,h=>by simp only[zN] at h ⊢;exact⟨pW hf,h.2⟩
 | .bool,_,_,_,_,hf,h=>by simp only[zN] at h ⊢;exact⟨pW hf,h.2⟩
 | .str,_,_,_,_,hf,h=>by simp only[zN] at h ⊢;exact⟨pW hf,h.2⟩
 | .fn,_,_,_,_,hf,h=>by simp only[zN] at h ⊢;exact⟨pW hf,h.2⟩
 | .unit,_,_,_,_,hf,h=>by simp only[zN] at h ⊢;exact⟨pW hf,h.2⟩
 | .sl _,k,f,x,c,hf,h=>by
  simp only[zN] at h ⊢
  refine⟨pW hf,?_⟩
  have h:=h.2
  rw[fS hf] at h ⊢
  cases f with
  | own e=>
   obtain⟨ad,cap,e1,e2,h⟩:=h
   refine⟨ad,cap,e1,e2,h.imp id ?_⟩
   rintro⟨b,o,cs,q1,q2,q3,q4,q5⟩
   exact⟨b,o,cs,q1,q2,q3,q4,fun i y hy=>gR hf (q5 i y hy)⟩
  | _=>exact h
 | .ptr _,k,f,x,c,hf,h=>by
  simp only[zN] at h ⊢
  refine⟨pW hf,?_⟩
  have h:=h.2
  rw[fS hf] at h ⊢
  cases f with
  | own e=>
   obtain⟨b,cs,q1,q2,q3,q4,q5⟩:=h
   exact⟨b,cs,q1,q2,q3,q4,gR hf q5⟩
  | _=>exact h
 | .arr _ _,k,f,x,c,hf,h=>by
  simp only[zN] at h ⊢
  refine⟨pW hf,?_⟩
  have h:=h.2
  rw[fS hf] at h ⊢
  cases f with
  | ar e=>exact⟨h.1,h.2.1,fun i y hy=>gR hf (h.2.2 i y hy)⟩
  | _=>exact h
 | .pair _ _,k,f,x,c,hf,h=>by
  simp only[zN] at h ⊢
  refine⟨pW hf,?_⟩
  have h:=h.2
  rw[fS hf] at h ⊢
  cases f with
  | pr e1 e2=>
   simp only[Fl.nopin,Ad] at hf
   exact⟨gR hf.1 h.1,gR hf.2 h.2⟩
  | _=>exact h
theorem iP:∀ {t:Ty},sE t .sh=true→At6 t=true
 | .int _,_|.bool,_|.str,_|.unit,_=>rfl
 | .arr _ t,h=>by simp only[sE,Fl.a] at h;simp only[At6];exact iP h
 | .pair a b,h=>by
  simp only[sE,Fl.l,Fl.r,Ad] at h
  simp only[At6,Ad];exact⟨iP h.1,iP h.2⟩
 | .fn,h|.sl _,h|.ptr _,h=>by simp[sE] at h
theorem rV:∀ {t:Ty},sE t .gone=true→At6 t=true
 | .int _,_|.bool,_|.str,_|.unit,_=>rfl
 | .arr _ t,h=>by simp only[sE,Fl.a] at h;simp only[At6];exact rV h
 | .pair a b,h=>by
  simp only[sE,Fl.l,Fl.r,Ad] at h
  simp only[At6,Ad];exact⟨rV h.1,rV h.2⟩
 | .fn,h|.sl _,h|.ptr _,h=>by simp[sE] at h
theorem pJ:∀ {t:Ty} {f:Fl} {k:Key} {x:t.D} {c:List Value},sE t f=true→zN S β H w k t f x c→zN S' β H w k t f x c
 | .int _,f,_,_,_,_,h|.bool,f,_,_,_,_,h|.str,f,_,_,_,_,h|.unit,f,_,_,_,_,h=>by
  simp only[zN] at h ⊢
  refine⟨h.1,?_⟩
  have h:=h.2
  cases hf:f.base<;>rw[hf] at h<;>first|exact h|(simpa only[Rd] using h)
 | .fn,_,_,_,_,hc,_=>by simp[sE] at hc
 | .sl t,f,_,_,_,hc,h=>by
  cases f with
  | own e=>
   simp only[sE] at hc
   simp only[zN,Fl.base] at h ⊢
   obtain⟨h0,ad,cap,e1,e2,h⟩:=h
   refine⟨h0,ad,cap,e1,e2,h.imp id ?_⟩
   rintro⟨b,o,cs,q1,q2,q3,q4,q5⟩
   exact⟨b,o,cs,q1,q2,q3,q4,fun i y hy=>pJ hc (q5 i y hy)⟩
  | _=>simp[sE] at hc
 | .ptr t,f,_,_,_,hc,h=>by
  cases f with
  | own e=>
   simp only[sE] at hc
   simp only[zN,Fl.base] at h ⊢
   obtain⟨h0,b,cs,q1,q2,q3,q4,q5⟩:=h
   exact⟨h0,b,cs,q1,q2,q3,q4,pJ hc q5⟩
  | _=>simp[sE] at hc
 | .arr n t,f,_,x,c,hc,h=>by
  simp only[sE] at hc
  rw[cN] at hc
  simp only[zN] at h ⊢
  refine⟨h.1,?_⟩
  have h:=h.2
  have rd:At6 t=true→Rd S w (.arr n t) x c→Rd S' w (.arr n t) x c:=fun hs=>aK (t:=.arr n t) hs
  cases hf:f.base with
  | ar e=>
   rw[hf] at h hc
   exact⟨h.1,h.2.1,fun i y hy=>pJ hc (h.2.2 i y hy)⟩
  | gone=>rw[hf] at h;exact h
  | sh=>rw[hf] at h hc;exact rd (iP hc) h
  | own e=>rw[hf] at h hc;exact rd (rV hc) h
  | pr e1 e2=>rw[hf] at h hc;exact rd (rV hc) h
  | pin k e=>exact absurd hf zL
 | .pair a b,f,_,x,c,hc,h=>by
  simp only[sE,Ad] at hc
  rw[mQ,mO] at hc
  simp only[zN] at h ⊢
  refine⟨h.1,?_⟩
  have h:=h.2
  have rd:At6 a=true∧At6 b=true→Rd S w (.pair a b) x c→Rd S' w (.pair a b) x c:=fun hs=>aK (t:=.pair a b) (by simp[At6,hs.1,hs.2])
  cases hf:f.base with
  | pr e1 e2=>
   rw[hf] at h hc
   exact⟨pJ hc.1 h.1,pJ hc.2 h.2⟩
  | gone=>rw[hf] at h;exact h
  | sh=>rw[hf] at h hc;exact rd ⟨iP hc.1,iP hc.2⟩ h
  | own e=>rw[hf] at h hc;exact rd ⟨rV hc.1,rV hc.2⟩ h
  | ar e=>rw[hf] at h hc;exact rd ⟨rV hc.1,rV hc.2⟩ h
  | pin k e=>exact absurd hf zL
end
def AR1 (P:Program) (f:FuncId) (args:Array Value) (w:World) (R:Value→World→Prop):Prop:=
 (∃ fn,P.funcs[f]?=some fn∧(fn.name == "runtime.NumGoroutine")=false∧fn.body.isNone=false∧Calls P f args w fun|.returned v,w'=>R v w'|_,_=>False) ∨
 ∃ v w',(callFunc f args).run P w=.ok (.value v) w'∧R v w'
theorem AR1.mono {P:Program} {f:FuncId} {args:Array Value} {w:World} {R R':Value→World→Prop} (h:AR1 P f args w R) (hr:∀ v w',R v w'→R' v w'):AR1 P f args w R':=by
 rcases h with ⟨fn,h1,h2,h3,h4⟩| ⟨v,w',h1,h2⟩
 ·exact .inl ⟨fn,h1,h2,h3,h4.mono fun e w' he=>by cases e<;>first|exact hr _ _ he|exact he⟩
 ·exact .inr ⟨v,w',h1,hr _ _ h2⟩
section
variable (S:Nat→Prop) (β:Key→Option Nat) (w:World)
def sF:List Mode→List Dyn→List (List Value)→Nat→Prop
 | [],[],[],_=>True
 | .ro t :: ms,d :: ds,c :: cs,i=>d.t=t∧Rd S w d.t d.x c∧sF ms ds cs (i+1)
 | .mv t f :: ms,d :: ds,c :: cs,i=>d.t=t∧f.nopin=true∧zN S β noH w [i] d.t f d.x c∧sF ms ds cs (i+1)
 | .io t f fo _ _ :: ms,d :: ds,c :: cs,i=>d.t=t∧(f.nopin=true∧fo.nopin=true)∧zN S β noH w [i] d.t f d.x c∧sF ms ds cs (i+1)
 | _,_,_,_=>False
def yH:List Dyn→List (List Value)→List Value
 | d :: ds,c :: cs=>zV d.t c :: yH ds cs
 | _,_=>[]
def Ad4:List Mode→List (List Value)→Nat→(t:Ty)→t.D→Prop
 | [],[],_,_,_=>True
 | .io t _ fo _ _ :: ms,c :: cs,i,.pair a b,x=>a=t∧zN S β noH w [2 * i+1] a fo x.1 c∧Ad4 ms cs (i+1) b x.2
 | .ro _ :: ms,_ :: cs,i,t,x=>Ad4 ms cs (i+1) t x
 | .mv _ _ :: ms,_ :: cs,i,t,x=>Ad4 ms cs (i+1) t x
 | _,_,_,_,_=>False
def oY:Nat→Nat→(t:Ty)→Fl→t.D→List (List Value)→Prop
 | 0,_,_,_,_,[]=>True
 | n+1,k,.pair a b,f,x,c :: cs=>zN S β noH w [2 * k] a f.l x.1 c∧oY n (k+1) b f.r x.2 cs
 | _,_,_,_,_,_=>False
end
def oA:Nat→Ty→List (List Value)→List Value
 | n+1,.pair a b,c :: cs=>zV a c :: oA n b cs
 | _,_,_=>[]
def AT4:List Value→Value
 | [v]=>v
 | vs=>.tuple vs.toArray
def Ret (c:FCfg) (x:c.rt.D) (cs:List (List Value)) (w:World) (S:Nat→Prop) (β:Key→Option Nat) (v:Value) (w':World):Prop:=
 ∃ S' β' crs,Sane w' S' β'∧Step w S β w' S' β'∧oY S' β' w' c.nres 0 c.rt c.rf x crs∧v=AT4 (oA c.nres c.rt crs)∧Ad4 S' β' w' c.modes cs 0 (A0J c.nres c.rt) (A8T c.nres c.rt x)
def A9R (E:Env) (f:FuncId) (ds:List Dyn) (x:(E.cfg f).rt.D):Prop:=
 ∀ (w:World) (S:Nat→Prop) (β:Key→Option Nat) (cs:List (List Value)),Sane w S β→sF S β w (E.cfg f).modes ds cs 0 →
  AR1 E.P f (yH ds cs).toArray w (Ret (E.cfg f) x cs w S β)
def Ag0 (E:Env) (R:Run E):Prop:=∀ f ds x,R f ds=some x→A9R E f ds x
end Go.Rf

end
section
namespace Go.Rf
set_option linter.unusedSectionVars false
variable [T:Laid]
section
variable {P:Program} {H:Nat→Option (List Value)} {N:Nat} {g g' G σ:zW} {V V' V0:Nat→Option Value} {w w':World} {S S':Nat→Prop} {β β':Key→Option Nat} {a:Act} {o:Oper}
variable {E:Env} {gv:zW} {us:List Up}
structure HeldIo (N:Nat) (w:World) (G:zW) (V V0:Nat→Option Value) (x:Operand) (t:Ty) (f fo:Fl) (d:Dyn) (o:Io) (k:Nat):Prop where
 np:f.nopin=true∧fo.nopin=true
 at_:∃ d0:Dat,yJ o.p o.e.t o.e.f o.e.x=some d0∧d0.t=t∧d0.f.base=f∧d=⟨d0.t,d0.x⟩ ∧
  ∀ cr L c,V0 o.r=some (zV o.e.t cr)→cr.length=o.e.t.size→vF w o.e.t (.reg cr) o.p=some (d0.t,L)→zD w d0.t.size L=some c→evl V0 x=some (zV d0.t c)
 ne:f.base≠.gone
 inb:inB o.p o.e.t o.e.x
 sv:(G (N+k)).sv=.dat o.e
 lt:o.r < N
 val:V (N+k)=V0 o.r
def mP (N:Nat) (w:World) (G:zW) (V V0:Nat→Option Value):List Mode→List Operand→List (Option Dyn)→List Io→Nat→Prop
 | [],[],[],[],_=>True
 | .ro _ :: ms,_ :: xs,none :: hs,rs,k=>mP N w G V V0 ms xs hs rs (k+1)
 | .mv t f :: ms,x :: xs,some d :: hs,rs,k=>d.t=t∧f.nopin=true∧(G (N+k)).sv=.dat ⟨d.t,d.x,f⟩∧V (N+k)=evl V0 x∧mP N w G V V0 ms xs hs rs (k+1)
 | .io t f fo _ _ :: ms,x :: xs,some d :: hs,o :: rs,k=>HeldIo N w G V V0 x t f fo d o k∧mP N w G V V0 ms xs hs rs (k+1)
 | _,_,_,_,_=>False
theorem A7y {i:Nat} {u:Up} (h:g i=g' i):(g.up u) i=(g'.up u) i:=by
 by_cases e:i=u.slot
 ·subst e;rw[pF,pF,h]
 ·rw[sQ e,sQ e,h]
theorem A0c {i:Nat}:∀ {us:List Up} {g g':zW},g i=g' i→(g.ups us) i=(g'.ups us) i
 | [],_,_,h=>h
 | u :: us,_,_,h=>by simp only[zW.ups];exact A0c (A7y h)
theorem A1F {i:Nat}:∀ {us:List Up} {g:zW},(∀ u ∈ us,u.slot≠i)→(g.ups us) i=g i
 | [],_,_=>rfl
 | u :: us,g,h=>by
  simp only[zW.ups]
  rw[A1F fun v hv=>h v (by simp[hv]),sQ (fun e=>h u (by simp) e.symm)]
theorem Sub.hand {n:Nat} {d:Dat} (h:Sub g G) (hn:(g n).sv=.dead):Sub g (upN G n d):=fun i=>by
 by_cases e:i=n
 ·subst e;exact .inl hn
 ·exact (h i).imp id fun h=>by rw[kS e];exact h
theorem Sub.rfl':Sub g g:=fun _=>.inr rfl
theorem Rel.weakenHand {r:Nat} {e:Dat} {f:Fl} (h:Rel H N g V w S β) (he:(g r).sv=.dat e) (hf:Fl.le f e.f=true):
  Rel H N (upN g r ⟨e.t,e.x,f⟩) V w (BF6 S β r e.t f) (A3W β r e.t f):=by
 refine Rel.put h (h.sane.pub r e.t f) (fun b hb=>⟨.inl hb,rfl⟩) (fun j s b hj _ hb=>⟨by simp[A3W,hj,hb],rfl⟩) (fun _ _=>rfl) ?_
 obtain⟨c,hv,hV⟩:=h.dat he
 refine⟨c,?_,hV⟩
 refine bP (fun b hb=>⟨.inl hb,rfl⟩) hf (fun s b hb=>⟨rfl,fun ho=>?_,fun ho=>.inr ⟨s,hb,ho⟩⟩) hv
 simp only[Ah,AH] at hb ⊢
 simp[A3W,ho,hb]
theorem AA7:∀ {p q:List PS} {t:Ty} {x:t.D},inB (p++q) t x→inB p t x
 | [],_,_,_,_=>by simp[inB]
 | .fst :: p,q,.pair _ _,x,h=>by simp only[Ah,inB] at h ⊢;exact AA7 (p:=p) h
 | .snd :: p,q,.pair _ _,x,h=>by simp only[Ah,inB] at h ⊢;exact AA7 (p:=p) h
 | .der :: p,q,.ptr _,x,h=>by simp only[Ah,inB] at h ⊢;exact AA7 (p:=p) h
 | .idx i :: p,q,.arr _ _,x,h=>by simp only[Ah,inB] at h ⊢;exact⟨h.1,AA7 (p:=p) h.2⟩
 | .elm i :: p,q,.sl _,x,h=>by simp only[Ah,inB] at h ⊢;exact⟨h.1,AA7 (p:=p) h.2⟩
 | .fst :: p,q,.int _,_,h|.fst :: p,q,.bool,_,h|.fst :: p,q,.str,_,h|.fst :: p,q,.fn,_,h|.fst :: p,q,.unit,_,h|.fst :: p,q,.sl _,_,h|.fst :: p,q,.ptr _,_,h|.fst :: p,q,.arr _ _,_,h=>by simp[inB] at h
 | .snd :: p,q,.int _,_,h|.snd :: p,q,.bool,_,h|.snd :: p,q,.str,_,h|.snd :: p,q,.fn,_,h|.snd :: p,q,.unit,_,h|.snd :: p,q,.sl _,_,h|.snd :: p,q,.ptr _,_,h|.snd :: p,q,.arr _ _,_,h=>by simp[inB] at h
 | .der :: p,q,.int _,_,h|.der :: p,q,.bool,_,h|.der :: p,q,.str,_,h|.der :: p,q,.fn,_,h|.der :: p,q,.unit,_,h|.der :: p,q,.sl _,_,h|.der :: p,q,.pair _ _,_,h|.der :: p,q,.arr _ _,_,h=>by simp[inB] at h
 | .idx _ :: p,q,.int _,_,h|.idx _ :: p,q,.bool,_,h|.idx _ :: p,q,.str,_,h|.idx _ :: p,q,.fn,_,h|.idx _ :: p,q,.unit,_,h|.idx _ :: p,q,.sl _,_,h|.idx _ :: p,q,.pair _ _,_,h|.idx _ :: p,q,.ptr _,_,h=>by simp[inB] at h
 | .elm _ :: p,q,.int _,_,h|.elm _ :: p,q,.bool,_,h|.elm _ :: p,q,.str,_,h|.elm _ :: p,q,.fn,_,h|.elm _ :: p,q,.unit,_,h|.elm _ :: p,q,.arr _ _,_,h|.elm _ :: p,q,.pair _ _,_,h|.elm _ :: p,q,.ptr _,_,h=>by simp[inB] at h
theorem A8R {x:Operand} {q:Pl} {e d:Dat} (h:Rel H N g V w S β) (hr:A47 g x (sv g x)=some q) (he:(g q.1).sv=.dat e) (hg:yJ q.2 e.t e.f e.x=some d):
  inB q.2 e.t e.x∧∀ cr L c,V q.1=some (zV e.t cr)→cr.length=e.t.size→vF w e.t (.reg cr) q.2=some (d.t,L)→zD w d.t.size L=some c→evl V x=some (zV d.t c):=by
 cases hx:sv g x with
 | dat e'=>
  rw[hx] at hr
  simp only[A47] at hr
  split at hr
  ·simp only[Aa] at hr;subst hr
   simp only[yJ,Aa] at hg;subst hg
   refine⟨by simp[inB],fun cr L c h1 h2 h3 h4=>?_⟩
   simp only[vF,Aa,At,true_and] at h3
   subst h3
   obtain⟨rfl,_⟩:=AX9 h4
   exact h1
  ·cases hr
 | als r' p c' s=>
  rw[hx] at hr
  obtain⟨i,rfl,hi⟩:=vZ hx (by simp) (by simp) (by simp)
  simp only[A47] at hr
  split at hr
  ·rename_i hok
   simp only[Aa] at hr;subst hr
   obtain⟨_,hb,_,cr,L,c2,k1,k2,k3,k4,k5,k6,k7⟩:=h.als hi hok he hg
   refine⟨hb,fun cr' L' c h1 h2 h3 h4=>?_⟩
   have:=uA (As (k1.symm.trans h1)) k2 h2
   subst this
   rw[k4] at h3
   simp only[Aa,At,true_and] at h3
   subst h3
   rw[k5] at h4
   simp only[Aa] at h4
   subst h4
   exact k7
  ·cases hr
 | adr r' p c' s=>
  rw[hx] at hr
  obtain⟨i,rfl,hi⟩:=vZ hx (by simp) (by simp) (by simp)
  simp only[A47] at hr
  split at hr
  ·rename_i hok
   split at hr
   ·rename_i q' hrev
    simp only[Aa] at hr;subst hr
    have hp:p=q'.reverse++[.der]:=by have:=Bp List.reverse hrev;simpa using this
    subst hp
    have hs:=h.slots i
    rw[hi] at hs
    obtain⟨_,_,_,hs⟩:=hs
    obtain⟨cr,t,b,o,k1,k2,k3,k4,k5,_⟩:=hs hok e he
    refine⟨AA7 k5,fun cr' L c h1 h2 h3 h4=>?_⟩
    have:=uA (As (k1.symm.trans h1)) k2 h2
    subst this
    rw[mY h3] at k3
    simp only[evl]
    rw[k4]
    obtain⟨dt,dx,df⟩:=d
    cases dt with
    | ptr τ=>
     simp only[Ty.size] at h4
     simp only[vF,xJ,h4] at k3
     split at k3
     ·rename_i t' L' he'
      simp only[Aa,At] at k3
      obtain⟨rfl,rfl⟩:=k3
      split at he'
      ·rename_i b' hq
       simp only[Aa,At,Loc.mem.injEq] at he' hq
       obtain⟨_,rfl,rfl⟩:=he'
       subst hq
       rfl
      ·cases he'
     ·cases k3
    | _=>simp[vF,xJ] at k3
   ·cases hr
  ·cases hr
 | _=>rw[hx] at hr;simp[A47] at hr
theorem BE7 {x:Operand} {q:Pl} (hs:Sub g G) (h:A47 g x (sv g x)=some q) (hd:(g q.1).sv≠.dead):A47 G x (sv G x)=some q:=by
 cases hx:sv g x with
 | dat e=>rw[hs.sv hx (by simp)];rw[hx] at h;exact h
 | als r' p c s=>
  rw[hs.sv hx (by simp)];rw[hx] at h
  simp only[A47] at h ⊢
  split at h
  ·rename_i hok
   simp only[Aa] at h;subst h
   rw[Sub.okA (hs.get rfl hd),hok];rfl
  ·cases h
 | adr r' p c s=>
  rw[hs.sv hx (by simp)];rw[hx] at h
  simp only[A47] at h ⊢
  split at h
  ·rename_i hok
   split at h
   ·rename_i q' hrev
    simp only[Aa] at h;subst h
    rw[Sub.okB (hs.get rfl hd),hok];rfl
   ·cases h
  ·cases h
 | _=>rw[hx] at h;simp[A47] at h
theorem A2C {x:Operand} (hD:yD N g) (hx:sv g x≠.dead) (hV:∀ i,i < N→V i=V' i):evl V x=evl V' x:=by
 cases x with
 | tmp s=>exact hV s (hD.lt hx)
 | _=>rfl
theorem AI1 {share:Bool}:∀ {ms:List Mode} {xs:List Operand} {g:zW} {p:Prep} {k:Nat} {V:Nat→Option Value} {G:zW} {S:Nat→Prop} {β:Key→Option Nat},
  Rel H N G V w S β→Sub g G→yD N g→(∀ i,N+k≤i→(G i).sv=.dead)→(∀ i,i < N→V i=V0 i)→AG4 share ms xs g=some p →
  ∃ G' V' S' β',Rel H N G' V' w S' β'∧Step w S β w S' β'∧Sub p.g G'∧yD N p.g∧(∀ i,i < N→G' i=(G.ups p.ups) i)∧(∀ i,i < N+k→V' i=V i) ∧
   (∀ i,N≤i→i < N+k→G' i=G i)∧mP N w G' V' V0 ms xs p.hands p.ios k∧∀ u ∈ p.ups,u.slot < N
 | [],[],g,p,k,V,G,S,β,h,hs,hD,hd,hV,hp=>by
  simp only[AG4,Aa] at hp;subst hp
  exact⟨G,V,S,β,h,.refl,hs,hD,fun _ _=>rfl,fun _ _=>rfl,fun _ _ _=>rfl,by simp[mP],by simp⟩
 | [],_ :: _,_,_,_,_,_,_,_,_,_,_,_,_,hp=>by simp[AG4] at hp
 | _ :: _,[],_,_,_,_,_,_,_,_,_,_,_,_,hp=>by simp[AG4] at hp
 | m :: ms,x :: xs,g,p,k,V,G,S,β,h,hs,hD,hd,hV,hp=>by
  simp only[AG4] at hp
  split at hp
  ·rename_i hnd us rs ho
   obtain⟨p',hp',rfl⟩:=Ae.1 hp
   have go:∀ (G1:zW) (V1:Nat→Option Value) (S1:Nat→Prop) (β1:Key→Option Nat),Rel H N G1 V1 w S1 β1→Step w S β w S1 β1→Sub (g.ups us) G1→(∀ u ∈ us,u.slot < N) →
     (∀ i,i≠N+k→G1 i=(G.ups us) i)→(∀ i,i≠N+k→V1 i=V i) →
     (∀ (G':zW) (V':Nat→Option Value),G' (N+k)=G1 (N+k)→V' (N+k)=V1 (N+k)→mP N w G' V' V0 ms xs p'.hands p'.ios (k+1)→mP N w G' V' V0 (m :: ms) (x :: xs) (hnd :: p'.hands) (rs++p'.ios) k) →
     ∃ G' V' S' β',Rel H N G' V' w S' β'∧Step w S β w S' β'∧Sub p'.g G'∧yD N p'.g∧(∀ i,i < N→G' i=(G.ups (us++p'.ups)) i)∧(∀ i,i < N+k→V' i=V i) ∧
      (∀ i,N≤i→i < N+k→G' i=G i)∧mP N w G' V' V0 (m :: ms) (x :: xs) (hnd :: p'.hands) (rs++p'.ios) k∧∀ u ∈ us++p'.ups,u.slot < N:=by
    intro G1 V1 S1 β1 h1 hst hs1 hlt hG hV1 hhd
    have hfar:∀ i,N≤i→(G.ups us) i=G i:=fun i hi=>A1F fun u hu e=>by have:=hlt u hu;omega
    obtain⟨G',V',S',β',r1,r2,r3,r4,r5,r6,r7,r8,r9⟩:=AI1 (k:=k+1) h1 hs1 (hD.ups hlt) (fun i hi=>by rw[hG i (by omega),hfar i (by omega)];exact hd i (by omega))
     (fun i hi=>by rw[hV1 i (by omega)];exact hV i hi) hp'
    refine⟨G',V',S',β',r1,hst.trans r2,r3,r4,fun i hi=>?_,fun i hi=>?_,fun i h1 h2=>?_,hhd G' V' (r7 _ (by omega) (by omega)) (r6 _ (by omega)) r8,fun u hu=>?_⟩
    ·rw[r5 i hi,yQ];exact A0c (hG i (by omega))
    ·rw[r6 i (by omega),hV1 i (by omega)]
    ·rw[r7 i h1 (by omega),hG i (by omega),hfar i h1]
    ·rcases A2.1 hu with hu|hu
     ·exact hlt u hu
     ·exact r9 u hu
   have hgn:(g (N+k)).sv=.dead:=hD _ (by omega)
   have hGn:(G (N+k)).sv=.dead:=hd _ (Ao _)
   cases m with
   | ro t=>
    simp only[A3Q] at ho
    have plain:(none,[],[])=(hnd,us,rs)→∃ G' V' S' β',Rel H N G' V' w S' β'∧Step w S β w S' β'∧Sub p'.g G'∧yD N p'.g∧(∀ i,i < N→G' i=(G.ups (us++p'.ups)) i)∧(∀ i,i < N+k→V' i=V i) ∧
      (∀ i,N≤i→i < N+k→G' i=G i)∧mP N w G' V' V0 (.ro t :: ms) (x :: xs) (hnd :: p'.hands) (rs++p'.ios) k∧∀ u ∈ us++p'.ups,u.slot < N:=fun e=>by
     simp only[At] at e
     obtain⟨rfl,rfl,rfl⟩:=e
     exact go G V S β h .refl hs (by simp) (fun _ _=>rfl) (fun _ _=>rfl) (fun G' V' _ _ hh=>hh)
    split at ho
    ·split at ho
     ·simp only[Aa] at ho;exact plain ho
     ·split at ho
      ·rename_i d hdat
       obtain⟨us',hpub,e⟩:=Ae.1 ho
       simp only[At] at e
       obtain⟨rfl,rfl,rfl⟩:=e
       obtain⟨hpub',hsub',_⟩:=gT hs hpub
       obtain⟨_,_,halive⟩:=gT Sub.rfl' hpub
       obtain⟨S1,β1,c,q1,q2,_,_⟩:=dK h hpub' (uD hs hdat)
       exact go _ V S1 β1 q1 q2 hsub' (fun u hu=>hD.lt (halive u hu)) (fun _ _=>rfl) (fun _ _=>rfl) (fun G' V' _ _ hh=>hh)
      ·cases ho
    ·simp only[Aa] at ho;exact plain ho
   | mv t f=>
    simp only[A3Q] at ho
    split at ho
    ·rename_i d us' ht
     split at ho
     ·rename_i hc
      simp only[Aa,At] at ho
      obtain⟨rfl,rfl,rfl⟩:=ho
      simp only[Ad,A8] at hc
      obtain⟨⟨hdt,hle⟩,hnp⟩:=hc
      obtain⟨ht',hsub'⟩:=fN hs ht
      have hlt:∀ u ∈ us',u.slot < N:=fun u hu=>hD.lt (iG ht u hu)
      obtain⟨S1,β1,c,q1,q2,q3,q4⟩:=jY (n:=N+k) h ht' hGn (by omega)
      have q5:=q1.weakenHand jA hle
      have hdn:((g.ups us') (N+k)).sv=.dead:=hD.ups hlt _ (by omega)
      refine go _ _ _ _ q5 (q2.trans (.pub _ _ _)) ((hsub'.hand hdn).hand hdn) hlt (fun i hi=>by rw[kS hi,kS hi]) (fun i hi=>by simp[upd,hi]) ?_
      intro G' V' e1 e2 hh
      refine⟨hdt,hnp,by rw[e1];exact jA,?_,hh⟩
      rw[e2,← A2C hD (fun e=>by rw[e] at ht;simp[take] at ht) hV,q3];simp[upd]
     ·cases ho
    ·cases ho
   | io t f fo sl pa=>
    simp only[A3Q] at ho
    split at ho
    ·rename_i q hr
     split at ho
     ·rename_i e hdat
      split at ho
      ·rename_i d hg
       split at ho
       ·rename_i hc
        simp only[Aa,At] at ho
        obtain⟨rfl,rfl,rfl⟩:=ho
        simp only[Ad,A8,Am] at hc
        obtain⟨⟨⟨⟨hdt,hfb⟩,hnp⟩,hnp'⟩,hng⟩:=hc
        have hnb:f.base≠.gone:=uE hng
        have hGr:G q.1=g q.1:=hs.get rfl (by rw[hdat];simp)
        have hGd:(G q.1).sv=.dat e:=by rw[hGr];exact hdat
        have hrN:q.1 < N:=hD.lt (i:=q.1) (by rw[hdat];simp)
        have hrn:N+k≠q.1:=by omega
        obtain⟨hinb,hval⟩:=A8R h (BE7 hs hr (by rw[hdat];simp)) hGd hg
        obtain⟨c,hvr,hVr⟩:=h.dat hGd
        have q1:Rel H N (G.up (.put q.1 .dead)) V w S β:=h.kill fun _ _=>rfl
        have hd1:((G.up (.put q.1 .dead)) q.1).sv=.dead:=by rw[show G.up (.put q.1 .dead) q.1=_ from pF (u:=.put q.1 .dead)];rfl
        have hd2:((G.up (.put q.1 .dead)) (N+k)).sv=.dead:=by rw[sQ (u:=.put q.1 .dead) hrn];exact hGn
        have q2:=(q1.rekey [] hd1 hd2).hand (n:=N+k) (d:=e) (c:=c) (qH hvr)
        have hsx:sv g x≠.dead:=fun e=>by rw[e] at hr;simp[A47] at hr
        have hlt:∀ u ∈ [Up.put q.1 .dead],u.slot < N:=fun u hu=>by rw[Ax.1 hu];exact hrN
        have hdn:((g.ups [Up.put q.1 .dead]) (N+k)).sv=.dead:=hD.ups hlt _ (by omega)
        have hsub1:Sub (g.ups [Up.put q.1 .dead]) (G.ups [Up.put q.1 .dead]):=hs.upD
        refine go _ _ _ _ q2 (.rekey _ _) (hsub1.hand hdn) hlt (fun i hi=>by rw[kS hi];rfl) (fun i hi=>by simp[upd,hi]) ?_
        intro G' V' e1 e2 hh
        have hx0:evl V x=evl V0 x:=A2C hD hsx hV
        exact⟨⟨⟨hnp,hnp'⟩,⟨d,hg,hdt,hfb,rfl,fun cr L c h1 h2 h3 h4=>by rw[← hx0];exact hval cr L c (by rw[hV _ hrN];exact h1) h2 h3 h4⟩,hnb,hinb,by rw[e1];exact jA,hrN,by rw[e2,← hV _ hrN,hVr];simp[upd]⟩,hh⟩
       ·cases ho
      ·cases ho
     ·cases ho
    ·cases ho
  ·cases hp
end
end Go.Rf

end
section
namespace Go.Rf
set_option linter.unusedSectionVars false
variable [T:Laid]
section
variable {P:Program} {H:Nat→Option (List Value)} {N:Nat} {g g' G σ:zW} {V V' V0:Nat→Option Value} {w w':World} {S S':Nat→Prop} {β β':Key→Option Nat} {a:Act} {o:Oper}
variable {E:Env} {gv:zW} {us:List Up}
theorem AP0:∀ {rs:List (Nat × Nat)} {cs:FCaps},eJ g rs=some cs→∀ x ∈ rs,(g x.1).sv≠.dead
 | [],_,_=>by simp
 | (r,s) :: rs,cs,h=>by
  simp only[eJ] at h
  intro x hx
  split at h
  ·rename_i he
   split at h
   ·obtain⟨cs',h,_⟩:=Ae.1 h
    rcases Ai.1 hx with rfl|hx
    ·simp[he]
    ·exact AP0 h x hx
   ·cases h
  ·rename_i he
   split at h
   ·obtain⟨cs',h,_⟩:=Ae.1 h
    rcases Ai.1 hx with rfl|hx
    ·simp[he]
    ·exact AP0 h x hx
   ·cases h
  ·cases h
theorem A4d {x:Operand} {d:Dat} (h:yK g (sv g x)=some d):∀ r ∈ kV g x (sv g x),(g r).sv≠.dead:=by
 cases hx:sv g x with
 | dat e=>
  simp only[kV]
  split
  ·simp
  ·split
   ·rename_i s
    intro r hr
    rw[Ax.1 hr]
    have:(g s).sv=.dat e:=hx
    rw[this];simp
   ·simp
 | als r p c s=>
  simp only[kV]
  split
  ·rename_i d hd
   split
   ·simp
   ·intro r' hr
    rw[Ax.1 hr]
    obtain⟨e,he,_⟩:=lX hd
    rw[he];simp
  ·simp
 | pend r p c s u e=>
  rw[hx] at h
  simp only[yK] at h
  split at h
  ·split at h
   ·rename_i e' he
    intro r' hr
    simp only[kV,A2,Ax] at hr
    rcases hr with hr|rfl
    ·split at hr
     ·rename_i i
      rw[Ax.1 hr]
      have:(g i).sv=_:=hx
      rw[this];simp
     ·cases hr
    ·rw[he];simp
   ·cases h
  ·cases h
 | clo f rs=>
  rw[hx] at h
  simp only[yK,Ae] at h
  obtain⟨cs,hc,_⟩:=h
  intro r hr
  simp only[kV,Aw] at hr
  obtain⟨y,hy,rfl⟩:=hr
  exact AP0 hc y hy
 | _=>simp[kV]
theorem A7B {x:Operand} {d:Dat} (hs:Sub g G) (h:yK g (sv g x)=some d):kV G x (sv G x)=kV g x (sv g x):=by
 have hn:sv g x≠.dead:=fun e=>by rw[e] at h;simp[yK] at h
 rw[hs.sv rfl hn]
 cases hx:sv g x with
 | als r p c s=>
  rw[hx] at h
  simp only[yK] at h
  split at h
  ·split at h
   ·rename_i d' hd
    simp only[kV]
    rw[hd,(hs.atP hd).1]
   ·cases h
  ·cases h
 | _=>rfl
structure BackIo (H:Nat→Option (List Value)) (N:Nat) (S:Nat→Prop) (β:Key→Option Nat) (w:World) (V0:Nat→Option Value) (t:Ty) (fo:Fl) (c:List Value) (o:Io) (k:Nat):Prop where
 lt:o.r < N
 np:fo.nopin=true
 at_:∃ (d0:Dat) (cr:List Value) (L:Loc),yJ o.p o.e.t o.e.f o.e.x=some d0∧d0.t=t∧d0.f.base≠.gone∧inB o.p o.e.t o.e.x∧V0 o.r=some (zV o.e.t cr) ∧
  zN S β H w [N+k] o.e.t o.e.f o.e.x cr∧vF w o.e.t (.reg cr) o.p=some (d0.t,L)∧zD w d0.t.size L=some c∧pN H d0.f c
def oP (H:Nat→Option (List Value)) (N:Nat) (S:Nat→Prop) (β:Key→Option Nat) (w:World) (V0:Nat→Option Value):List Mode→List (List Value)→List Io→Nat→Prop
 | [],[],[],_=>True
 | .ro _ :: ms,_ :: cs,rs,k=>oP H N S β w V0 ms cs rs (k+1)
 | .mv _ _ :: ms,_ :: cs,rs,k=>oP H N S β w V0 ms cs rs (k+1)
 | .io t _ fo _ _ :: ms,c :: cs,o :: rs,k=>BackIo H N S β w V0 t fo c o k∧oP H N S β w V0 ms cs rs (k+1)
 | _,_,_,_=>False
def AT2:List Mode→List Io→Nat→Nat→Key
 | .io _ _ _ _ _ :: ms,o :: os,i,j=>if j=i then xA o.p else AT2 ms os (i+1) j
 | .ro _ :: ms,os,i,j=>AT2 ms os (i+1) j
 | .mv _ _ :: ms,os,i,j=>AT2 ms os (i+1) j
 | _,_,_,_=>[]
theorem An0:∀ {ms:List Mode} {os:List Io} {i j:Nat},j < i→AT2 ms os i j=[]
 | .io _ _ _ _ _ :: ms,o :: os,i,j,h=>by simp only[AT2];rw[Aq (by omega)];exact An0 (by omega)
 | .ro _ :: ms,os,i,j,h=>by simp only[AT2];exact An0 (by omega)
 | .mv _ _ :: ms,os,i,j,h=>by simp only[AT2];exact An0 (by omega)
 | [],_,_,_,_=>by simp[AT2]
 | .io _ _ _ _ _ :: _,[],_,_,_=>by simp[AT2]
def AH7 (N:Nat) (ks:Nat→Key) (β:Key→Option Nat):Key→Option Nat
 | i :: s=>β ((N+i) :: (ks i++s))
 | []=>none
theorem kC {ks:Nat→Key}:∀ {ms:List Mode} {xs:List Operand} {hs:List (Option Dyn)} {rs:List Io} {k:Nat} {ds:List Dyn} {lent:List Nat},
  Rel H N G V w S β→Sub g G→yD N g→(∀ i,i < N→V i=V0 i)→mP N w G V V0 ms xs hs rs k→(∀ j,k≤j→ks j=AT2 ms rs k j)→mC g ms xs hs=some (ds,lent) →
  ∃ cs:List (List Value),xs.map (evl V0 ·)=(yH ds cs).map some∧(∀ r ∈ lent,r < N)∧oP H N S β w V0 ms cs rs k ∧
   ∀ L:List Nat,(∀ r ∈ lent,r ∈ L)→sF (Ap3 S β L) (AH7 N ks β) w ms ds cs k
 | [],[],[],rs,k,ds,lent,h,hs,hD,hV,hh,hk,hd=>by
  simp only[mC,Aa,At] at hd
  obtain⟨rfl,rfl⟩:=hd
  refine⟨[],by simp[yH],by simp,?_,fun L _=>by simp[sF]⟩
  cases rs with
  | nil=>simp[oP]
  | cons _ _=>simp[mP] at hh
 | .ro t :: ms,x :: xs,none :: hs',rs,k,ds,lent,h,hs,hD,hV,hh,hk,hd=>by
  simp only[mP] at hh
  have hk':∀ j,k+1≤j→ks j=AT2 ms rs (k+1) j:=fun j hj=>by rw[hk j (by omega)];simp only[AT2]
  have nilcase:∀ {τ:Ty},sv g x=.nils→t=.sl τ→((mC g ms xs hs').map fun r=>((⟨.sl τ,([]:List τ.D)⟩:Dyn) :: r.1,r.2))=some (ds,lent)→∃ cs:List (List Value),(x :: xs).map (evl V0 ·)=(yH ds cs).map some∧(∀ r ∈ lent,r < N)∧oP H N S β w V0 (.ro t :: ms) cs rs k ∧
    ∀ L:List Nat,(∀ r ∈ lent,r ∈ L)→sF (Ap3 S β L) (AH7 N ks β) w (.ro t :: ms) ds cs k:=by
   intro τ hx ht hq
   obtain⟨r,hr,e⟩:=Ae.1 hq
   subst ht
   simp only[At] at e
   obtain⟨rfl,rfl⟩:=e
   obtain⟨cs,h1,h2,h3,h4⟩:=kC (k:=k+1) h hs hD hV hh hk' hr
   refine⟨[.slice none 0 0] :: cs,?_,h2,h3,fun L hL=>⟨rfl,?_,h4 L hL⟩⟩
   ·rcases fZ (hs.sv hx (by simp)) with ⟨s,rfl,hss⟩| rfl
    ·have:=h.slots s
     rw[hss] at this;exact this.elim
    ·simp only[Ag,yH,h1];rfl
   ·simp only[Rd]
    exact⟨none,0,rfl,Ao _,.inl rfl⟩
  have datcase:∀ {d:Dat},yK g (sv g x)=some d→d.t=t→((mC g ms xs hs').map fun r=>((⟨d.t,d.x⟩:Dyn) :: r.1,kV g x (sv g x)++r.2))=some (ds,lent)→∃ cs:List (List Value),(x :: xs).map (evl V0 ·)=(yH ds cs).map some∧(∀ r ∈ lent,r < N)∧oP H N S β w V0 (.ro t :: ms) cs rs k ∧
    ∀ L:List Nat,(∀ r ∈ lent,r ∈ L)→sF (Ap3 S β L) (AH7 N ks β) w (.ro t :: ms) ds cs k:=by
   intro d hx ht hq
   obtain⟨r,hr,e⟩:=Ae.1 hq
   simp only[At] at e
   obtain⟨rfl,rfl⟩:=e
   obtain⟨cs,h1,h2,h3,h4⟩:=kC (k:=k+1) h hs hD hV hh hk' hr
   obtain⟨c,hc,hrd⟩:=A19 h (uD hs hx)
   rw[A7B hs hx] at hrd
   refine⟨c :: cs,?_,fun r hr=>?_,h3,fun L hL=>⟨ht,?_,h4 L fun r hr=>hL r (A7 _ hr)⟩⟩
   ·simp only[Ag,yH,h1]
    rw[← A2C hD (fun e=>by rw[e] at hx;simp[yK] at hx) hV,hc]
   ·rcases A2.1 hr with hr|hr
    ·exact hD.lt (A4d hx r hr)
    ·exact h2 r hr
   ·exact zM (fun b hb=>⟨hb.imp id fun ⟨r,hr,q⟩=>⟨r,hL r (A9 _ hr),q⟩,rfl⟩) hrd
  simp only[mC] at hd
  split at hd
  ·rename_i hx
   split at hd
   ·exact nilcase hx rfl hd
   ·cases hd
  ·split at hd
   ·rename_i d hx
    split at hd
    ·rename_i ht;exact datcase hx ht hd
    ·cases hd
   ·cases hd
 | .mv t f :: ms,x :: xs,some d :: hs',rs,k,ds,lent,h,hs,hD,hV,hh,hk,hd=>by
  simp only[mP] at hh
  have hk':∀ j,k+1≤j→ks j=AT2 ms rs (k+1) j:=fun j hj=>by rw[hk j (by omega)];simp only[AT2]
  have hk0:ks k=[]:=by rw[hk k (Ao _)];simp only[AT2];exact An0 (by omega)
  obtain⟨h1,h2,h3,h4,hh⟩:=hh
  simp only[mC] at hd
  obtain⟨r,hr,e⟩:=Ae.1 hd
  simp only[At] at e
  obtain⟨rfl,rfl⟩:=e
  obtain⟨cs,q1,q2,q3,q4⟩:=kC (k:=k+1) h hs hD hV hh hk' hr
  obtain⟨c,hv,hc⟩:=h.dat h3
  refine⟨c :: cs,?_,q2,q3,fun L hL=>⟨h1,h2,?_,q4 L hL⟩⟩
  ·simp only[Ag,yH,q1]
   rw[← h4,hc]
  ·exact gR h2 (zI (fun b hb=>⟨.inl hb,rfl⟩) (fun s b hb=>⟨by simpa[AH7,hk0] using hb,rfl⟩) hv)
 | .io t f fo sl pa :: ms,x :: xs,some d :: hs',rs,k,ds,lent,h,hs,hD,hV,hh,hk,hd=>by
  cases rs with
  | nil=>simp[mP] at hh
  | cons o rs=>
  simp only[mP] at hh
  have hk':∀ j,k+1≤j→ks j=AT2 ms rs (k+1) j:=fun j hj=>by rw[hk j (by omega)];simp only[AT2];rw[Aq (by omega)]
  have hk0:ks k=xA o.p:=by rw[hk k (Ao _)];simp only[AT2,AI]
  obtain⟨⟨hnp,⟨d0,hg,hdt,hfb,rfl,hval⟩,hne,hinb,hsv,hlt,hv0⟩,hh⟩:=hh
  simp only[mC] at hd
  obtain⟨r,hr,e⟩:=Ae.1 hd
  simp only[At] at e
  obtain⟨rfl,rfl⟩:=e
  obtain⟨cs,q1,q2,q3,q4⟩:=kC (k:=k+1) h hs hD hV hh hk' hr
  obtain⟨cr,hvr,hVr⟩:=h.dat hsv
  have hl:=zO hvr
  have hV0:V0 o.r=some (zV o.e.t cr):=by rw[← hv0];exact hVr
  have hgb:d0.f.base≠.gone:=by
   rw[hfb]
   rw[fS hnp.1] at hne;exact hne
  obtain⟨L,c,w1,w2,w3⟩:=A2a (L:=.reg cr) hg hinb hgb (by simp[zD,hl]) hvr
  have hev:=hval cr L c hV0 hl w1 w2
  refine⟨c :: cs,?_,q2,⟨⟨hlt,hnp.2,d0,cr,L,hg,hdt,hgb,hinb,hV0,hvr,w1,w2,vC w3⟩,q3⟩,fun L hL=>⟨hdt,hnp,?_,q4 L hL⟩⟩
  ·simp only[Ag,yH,q1,hev]
  ·refine gR (H:=H) hnp.1 ?_
   rw[← hfb]
   exact jO (zI (fun b hb=>⟨.inl hb,rfl⟩) (fun s b hb=>⟨by simpa[AH7,hk0] using hb,rfl⟩) w3)
 | [],_ :: _,_,_,_,_,_,_,_,_,_,_,_,hd=>by simp[mC] at hd
 | [],[],_ :: _,_,_,_,_,_,_,_,_,_,_,hd=>by simp[mC] at hd
 | .ro _ :: _,[],_,_,_,_,_,_,_,_,_,_,_,hd=>by simp[mC] at hd
 | .mv _ _ :: _,[],_,_,_,_,_,_,_,_,_,_,_,hd=>by simp[mC] at hd
 | .io _ _ _ _ _ :: _,[],_,_,_,_,_,_,_,_,_,_,_,hd=>by simp[mC] at hd
 | .ro _ :: _,_ :: _,[],_,_,_,_,_,_,_,_,_,_,hd=>by simp[mC] at hd
 | .mv _ _ :: _,_ :: _,[],_,_,_,_,_,_,_,_,_,_,hd=>by simp[mC] at hd
 | .io _ _ _ _ _ :: _,_ :: _,[],_,_,_,_,_,_,_,_,_,_,hd=>by simp[mC] at hd
 | .ro _ :: _,_ :: _,some _ :: _,_,_,_,_,_,_,_,_,hh,_,_=>by simp[mP] at hh
 | .mv _ _ :: _,_ :: _,none :: _,_,_,_,_,_,_,_,_,hh,_,_=>by simp[mP] at hh
 | .io _ _ _ _ _ :: _,_ :: _,none :: _,_,_,_,_,_,_,_,_,hh,_,_=>by simp[mP] at hh
end
end Go.Rf

end
section
namespace Go.Rf
set_option linter.unusedSectionVars false
variable [T:Laid]
section
variable {P:Program} {H:Nat→Option (List Value)} {N:Nat} {g g' G σ:zW} {V V' V0:Nat→Option Value} {w w' w2:World} {S S' S2:Nat→Prop} {β β' β2:Key→Option Nat} {a:Act} {o:Oper}
variable {E:Env} {gv:zW} {us:List Up}
def gG:List Mode→List Io→Nat→Nat→Option (Nat × Key)
 | .io _ _ _ _ _ :: ms,o :: rs,i,j=>if j=o.r then some (i,xA o.p) else gG ms rs (i+1) j
 | .ro _ :: ms,rs,i,j=>gG ms rs (i+1) j
 | .mv _ _ :: ms,rs,i,j=>gG ms rs (i+1) j
 | _,_,_,_=>none
theorem AP5:∀ {ms:List Mode} {rs:List Io} {i j:Nat} {m:Nat × Key},gG ms rs i j=some m→i≤m.1
 | .io _ _ _ _ _ :: ms,o :: rs,i,j,m,h=>by
  simp only[gG] at h
  split at h
  ·simp only[Aa] at h;subst h;exact Ao _
  ·have:=AP5 h;omega
 | .ro _ :: ms,rs,i,j,m,h=>by simp only[gG] at h;have:=AP5 h;omega
 | .mv _ _ :: ms,rs,i,j,m,h=>by simp only[gG] at h;have:=AP5 h;omega
 | [],_,_,_,_,h=>by simp[gG] at h
 | .io _ _ _ _ _ :: _,[],_,_,_,h=>by simp[gG] at h
theorem AW7:∀ {ms:List Mode} {rs:List Io} {i j j':Nat} {m m':Nat × Key},gG ms rs i j=some m→gG ms rs i j'=some m'→m.1=m'.1→j=j'
 | .io _ _ _ _ _ :: ms,o :: rs,i,j,j',m,m',h,h',e=>by
  simp only[gG] at h h'
  split at h<;>split at h'
  ·rename_i e e';rw[e,e']
  ·simp only[Aa] at h;subst h;have:=AP5 h';simp only at e;omega
  ·simp only[Aa] at h';subst h';have:=AP5 h;simp only at e;omega
  ·exact AW7 h h' e
 | .ro _ :: ms,rs,i,j,j',m,m',h,h',e=>by simp only[gG] at h h';exact AW7 h h' e
 | .mv _ _ :: ms,rs,i,j,j',m,m',h,h',e=>by simp only[gG] at h h';exact AW7 h h' e
 | [],_,_,_,_,_,_,h,_,_=>by simp[gG] at h
 | .io _ _ _ _ _ :: _,[],_,_,_,_,_,h,_,_=>by simp[gG] at h
theorem dM:∀ {ms:List Mode} {rs:List Io} {i j:Nat} {m:Nat × Key},gG ms rs i j=some m→j ∈ rs.map Io.r
 | .io _ _ _ _ _ :: ms,o :: rs,i,j,m,h=>by
  simp only[gG] at h
  split at h
  ·rename_i e;simp[e]
  ·simp only[Ag,Ai];exact .inr (dM h)
 | .ro _ :: ms,rs,i,j,m,h=>by simp only[gG] at h;exact dM h
 | .mv _ _ :: ms,rs,i,j,m,h=>by simp only[gG] at h;exact dM h
 | [],_,_,_,_,h=>by simp[gG] at h
 | .io _ _ _ _ _ :: _,[],_,_,_,h=>by simp[gG] at h
theorem Ao7:∀ {ms:List Mode} {rs:List Io} {i j:Nat} {m:Nat × Key},gG ms rs i j=some m→AT2 ms rs i m.1=m.2
 | .io _ _ _ _ _ :: ms,o :: rs,i,j,m,h=>by
  simp only[gG] at h
  simp only[AT2]
  split at h
  ·simp only[Aa] at h;subst h;simp
  ·have:=AP5 h;rw[Aq (by omega)];exact Ao7 h
 | .ro _ :: ms,rs,i,j,m,h=>by simp only[gG] at h;simp only[AT2];exact Ao7 h
 | .mv _ _ :: ms,rs,i,j,m,h=>by simp only[gG] at h;simp only[AT2];exact Ao7 h
 | [],_,_,_,_,h=>by simp[gG] at h
 | .io _ _ _ _ _ :: _,[],_,_,_,h=>by simp[gG] at h
def tS:Nat→Key→Option Key
 | k,0 :: s=>some (2 * k :: s)
 | k,1 :: s=>tS (k+1) s
 | _,_=>none
theorem gH:∀ {s:Key} {k:Nat} {q:Key},tS k s=some q→∃ m t,q=2 * m :: t∧k≤m
 | [],_,_,h=>by simp[tS] at h
 | 0 :: s,k,q,h=>by simp only[tS,Aa] at h;exact⟨k,s,h.symm,Ao _⟩
 | 1 :: s,k,q,h=>by
  simp only[tS] at h
  obtain⟨m,t,e,hm⟩:=gH h
  exact⟨m,t,e,by omega⟩
 | (_+2) :: _,_,_,h=>by simp[tS] at h
theorem Aa7:∀ {s s':Key} {k:Nat} {q:Key},tS k s=some q→tS k s'=some q→s=s'
 | 0 :: s,0 :: s',k,q,h,h'=>by
  simp only[tS,Aa] at h h'
  rw[← h'] at h;simp only[Af,true_and] at h;rw[h]
 | 1 :: s,1 :: s',k,q,h,h'=>by
  simp only[tS] at h h'
  rw[Aa7 h h']
 | 0 :: s,1 :: s',k,q,h,h'=>by
  simp only[tS,Aa] at h h'
  obtain⟨m,t,e,hm⟩:=gH h'
  rw[e] at h;simp only[Af] at h;omega
 | 1 :: s,0 :: s',k,q,h,h'=>by
  simp only[tS,Aa] at h h'
  obtain⟨m,t,e,hm⟩:=gH h
  rw[e] at h';simp only[Af] at h';omega
 | [],_,_,_,h,_=>by simp[tS] at h
 | (_+2) :: _,_,_,_,h,_=>by simp[tS] at h
 | _,[],_,_,_,h=>by simp[tS] at h
 | _,(_+2) :: _,_,_,_,h=>by simp[tS] at h
def A7e (one:Bool) (dst:Option Nat) (io:Nat→Option (Nat × Key)) (j:Nat) (s:Key):Option Key:=
 if dst=some j then (if one then some (0 :: s) else tS 0 s) else (io j).bind fun m=>(sA m.2 s).map fun s=>(2 * m.1+1) :: s
theorem A7r {one:Bool} {dst:Option Nat} {io:Nat→Option (Nat × Key)} (hio:∀ j j' m m',io j=some m→io j'=some m'→m.1=m'.1→j=j') {j j':Nat} {s s' q:Key}
  (h:A7e one dst io j s=some q) (h':A7e one dst io j' s'=some q):j=j'∧s=s':=by
 unfold A7e at h h'
 have even:∀ {s:Key},(if one=true then some (0 :: s) else tS 0 s)=some q→∃ m t,q=2 * m :: t:=fun {s} h=>by
  split at h
  ·simp only[Aa] at h;exact⟨0,s,h.symm⟩
  ·obtain⟨m,t,e,_⟩:=gH h;exact⟨m,t,e⟩
 have odd:∀ {j:Nat} {s:Key},((io j).bind fun m=>(sA m.2 s).map fun s=>(2 * m.1+1) :: s)=some q→∃ m s2,io j=some m∧s=m.2++s2∧q=(2 * m.1+1) :: s2:=fun {j s} h=>by
  obtain⟨m,h1,h2⟩:=Ac.1 h
  obtain⟨s2,h3,h4⟩:=Ae.1 h2
  exact⟨m,s2,h1,pU.1 h3,h4.symm⟩
 split at h<;>split at h'
 ·rename_i e e'
  rw[e] at e'
  refine⟨by simpa using e',?_⟩
  split at h
  ·simp only[Aa] at h h'
   rw[Ar (by assumption)] at h'
   simp only[Aa] at h'
   rw[← h'] at h;simpa using h
  ·rw[Aq (by assumption)] at h'
   exact Aa7 h h'
 ·obtain⟨m,t,e⟩:=even h
  obtain⟨i,s2,_,_,e'⟩:=odd h'
  rw[e] at e';simp only[Af] at e';omega
 ·obtain⟨m,t,e⟩:=even h'
  obtain⟨i,s2,_,_,e'⟩:=odd h
  rw[e] at e';simp only[Af] at e';omega
 ·obtain⟨m,s2,h1,h2,e⟩:=odd h
  obtain⟨m',s2',h1',h2',e'⟩:=odd h'
  rw[e] at e'
  simp only[Af] at e'
  have hj:=hio _ _ _ _ h1 h1' (by omega)
  subst hj
  rw[h1] at h1'
  simp only[Aa] at h1'
  subst h1'
  exact⟨rfl,by rw[h2,h2',e'.2]⟩
def AO6 (N:Nat) (one:Bool) (dst:Option Nat) (io:Nat→Option (Nat × Key)) (β β2:Key→Option Nat):Key→Option Nat
 | j :: s=>if N≤j then none else
  match A7e one dst io j s with
  | some q=>β2 q
  | none=>if dst=some j then none else match io j with
   | some m=>β ((N+m.1) :: s)
   | none=>β (j :: s)
 | []=>none
def Was (N:Nat) (io:Nat→Option (Nat × Key)) (j:Nat) (s κ:Key):Prop:=(io j=none∧κ=j :: s)∨∃ m,io j=some m∧sA m.2 s=none∧κ=(N+m.1) :: s
theorem iO {one:Bool} {dst:Option Nat} {io:Nat→Option (Nat × Key)} {k:Key} {b:Nat} (h:AO6 N one dst io β β2 k=some b):
  ∃ j s,k=j :: s∧j < N∧((∃ q,A7e one dst io j s=some q∧β2 q=some b)∨∃ κ,Was N io j s κ∧β κ=some b):=by
 cases k with
 | nil=>simp[AO6] at h
 | cons j s=>
  simp only[AO6] at h
  split at h
  ·cases h
  ·rename_i hN
   refine⟨j,s,rfl,by omega,?_⟩
   split at h
   ·rename_i q hq;exact .inl ⟨q,hq,h⟩
   ·rename_i hq
    split at h
    ·cases h
    ·rename_i hd
     unfold A7e at hq
     rw[Aq hd] at hq
     split at h
     ·rename_i m hm
      rw[hm] at hq
      simp only[Bf,Option.map_eq_none_iff] at hq
      exact .inr ⟨_,.inr ⟨m,hm,hq,rfl⟩,h⟩
     ·rename_i hm
      exact .inr ⟨_,.inl ⟨hm,rfl⟩,h⟩
theorem A5a {one:Bool} {dst:Option Nat} {io:Nat→Option (Nat × Key)} {ks:Nat→Key} {lent:List Nat} (hio:∀ j j' m m',io j=some m→io j'=some m'→m.1=m'.1→j=j') (hks:∀ j m,io j=some m→ks m.1=m.2)
  (hs:Sane w S β) (h2:Sane w2 S2 β2) (hst:Step w (Ap3 S β lent) (AH7 N ks β) w2 S2 β2) {S':Nat→Prop} (hS':(S'=S2∧lent=[])∨S'=S):
  Sane w2 S' (AO6 N one dst io β β2)∧Step w S β w2 S' (AO6 N one dst io β β2):=by
 have hand:∀ {k b},AH7 N ks β k=some b→∃ i s,β ((N+i) :: (ks i++s))=some b:=fun {k b} h=>by
  cases k with
  | nil=>simp[AH7] at h
  | cons i s=>exact⟨i,s,h⟩
 have apartK:∀ {j s κ b k},j < N→Was N io j s κ→β κ=some b→AH7 N ks β k=some b→False:=fun {j s κ b k} hj hw hb hk=>by
  obtain⟨i,s',e⟩:=hand hk
  have:=hs.inj _ _ _ hb e
  rcases hw with ⟨_,rfl⟩| ⟨m,hm,hst,rfl⟩
  ·simp only[Af] at this;omega
  ·simp only[Af] at this
   have hi:i=m.1:=by omega
   subst hi
   rw[hks j m hm] at this
   exact iI hst _ this.2
 have far:∀ {q b j s κ},β2 q=some b→j < N→Was N io j s κ→β κ=some b→False:=fun {q b j s κ} hq hj hw hb=>by
  rcases hst.new q b hq with ⟨k',e⟩| e
  ·exact apartK hj hw hb e
  ·have:=hs.live _ _ hb;omega
 refine⟨⟨fun k k' b hk hk'=>?_,fun k b hk hb=>?_,fun k b hk=>?_,fun b hb=>?_,hs.tabs fun b hb=>⟨hS'.elim (fun h=>h.1▸hst.keepS b (.inl hb)) (fun h=>h▸hb),hst.old b (hs.liveS b hb) (fun k hk=>by obtain⟨i,s',e⟩:=hand hk;exact hs.sep _ _ e hb)⟩⟩,⟨hst.size,fun b hb hk=>?_,fun k b hk=>?_,fun b hb=>?_,fun b hb=>?_,hst.out⟩⟩
 ·obtain⟨j,s,rfl,hj,h⟩:=iO hk
  obtain⟨j',s',rfl,hj',h'⟩:=iO hk'
  rcases h with ⟨q,n1,n2⟩| ⟨κ,n0,n1⟩<;>rcases h' with ⟨q',m1,m2⟩| ⟨κ',m0,m1⟩
  ·have:=h2.inj _ _ _ n2 m2
   subst this
   obtain⟨e1,e2⟩:=A7r hio n1 m1
   rw[e1,e2]
  ·exact (far n2 hj' m0 m1).elim
  ·exact (far m2 hj n0 n1).elim
  ·have:=hs.inj _ _ _ n1 m1
   rcases n0 with ⟨_,rfl⟩| ⟨m,hm,_,rfl⟩<;>rcases m0 with ⟨_,rfl⟩| ⟨m',hm',_,rfl⟩
   ·exact this
   ·simp only[Af] at this;omega
   ·simp only[Af] at this;omega
   ·simp only[Af] at this
    rw[hio _ _ _ _ hm hm' (by omega),this.2]
 ·obtain⟨j,s,rfl,hj,h⟩:=iO hk
  rcases h with ⟨q,n1,n2⟩| ⟨κ,n0,n1⟩
  ·rcases hS' with ⟨rfl,_⟩| rfl
   ·exact h2.sep _ _ n2 hb
   ·exact h2.sep _ _ n2 (hst.keepS b (.inl hb))
  ·rcases hS' with ⟨rfl,hl⟩| rfl
   ·rcases hst.newS b hb with (h|⟨r,hr,_⟩)| ⟨k',e⟩| e
    ·exact hs.sep _ _ n1 h
    ·rw[hl] at hr;cases hr
    ·exact apartK hj n0 n1 e
    ·have:=hs.live _ _ n1;omega
   ·exact hs.sep _ _ n1 hb
 ·obtain⟨j,s,rfl,hj,h⟩:=iO hk
  rcases h with ⟨q,n1,n2⟩| ⟨κ,n0,n1⟩
  ·exact h2.live _ _ n2
  ·exact AK (hs.live _ _ n1) hst.size
 ·rcases hS' with ⟨rfl,_⟩| rfl
  ·exact h2.liveS b hb
  ·exact AK (hs.liveS b hb) hst.size
 ·exact hst.old b hb fun k hk'=>by
   obtain⟨i,s,e⟩:=hand hk'
   exact hk _ e
 ·obtain⟨j,s,rfl,hj,h⟩:=iO hk
  rcases h with ⟨q,n1,n2⟩| ⟨κ,n0,n1⟩
  ·rcases hst.new q b n2 with ⟨k',e⟩| e
   ·obtain⟨i,s',e⟩:=hand e
    exact .inl ⟨_,e⟩
   ·exact .inr e
  ·exact .inl ⟨_,n1⟩
 ·rcases hS' with ⟨rfl,_⟩| rfl
  ·exact hst.keepS b (.inl hb)
  ·exact hb
 ·rcases hS' with ⟨rfl,hl⟩| rfl
  ·rcases hst.newS b hb with (h|⟨r,hr,_⟩)| ⟨k',e⟩| e
   ·exact .inl h
   ·rw[hl] at hr;cases hr
   ·obtain⟨i,s',e⟩:=hand e
    exact .inr (.inl ⟨_,e⟩)
   ·exact .inr (.inr e)
  ·exact .inl hb
theorem A0W {ks:Nat→Key} {lent:List Nat} (hs:Sane w S β) (hl:∀ r ∈ lent,r < N):Sane w (Ap3 S β lent) (AH7 N ks β):=by
 refine⟨fun k k' b h h'=>?_,fun k b h hb=>?_,fun k b h=>?_,fun b hb=>?_,hs.tabs fun b hb=>⟨.inl hb,rfl⟩⟩
 ·cases k with
  | nil=>simp[AH7] at h
  | cons i s=>
   cases k' with
   | nil=>simp[AH7] at h'
   | cons i' s'=>
    have:=hs.inj _ _ _ h h'
    simp only[Af] at this ⊢
    have hi:i=i':=by omega
    subst hi
    exact⟨rfl,AL this.2⟩
 ·cases k with
  | nil=>simp[AH7] at h
  | cons i s=>
   rcases hb with hb|⟨r,hr,s',hb⟩
   ·exact hs.sep _ _ h hb
   ·have:=hs.inj _ _ _ h hb
    simp only[Af] at this
    have:=hl r hr;omega
 ·cases k with
  | nil=>simp[AH7] at h
  | cons i s=>exact hs.live _ _ h
 ·rcases hb with hb|⟨r,hr,s',hb⟩
  ·exact hs.liveS b hb
  ·exact hs.live _ _ hb
end
end Go.Rf

end
section
namespace Go.Rf
set_option linter.unusedSectionVars false
variable [T:Laid]
section
variable {P:Program} {H:Nat→Option (List Value)} {N:Nat} {g g' G σ:zW} {V V' V0:Nat→Option Value} {w w' w2:World} {S S' S2:Nat→Prop} {β β' β2:Key→Option Nat} {a:Act} {o:Oper}
variable {E:Env} {gv:zW} {us:List Up}
theorem Ac8:∀ {n k:Nat} {t:Ty} {f:Fl} {x:t.D} {cs:List (List Value)},oY S β w n k t f x cs→(oA n t cs).length=n
 | 0,_,_,_,_,[],_=>by simp[oA]
 | n+1,k,.pair a b,f,x,c :: cs,h=>by
  simp only[oY] at h
  simp only[oA,AS,Ac8 h.2]
 | 0,_,_,_,_,_ :: _,h=>by simp[oY] at h
 | _+1,_,.pair _ _,_,_,[],h=>by simp[oY] at h
 | _+1,_,.int _,_,_,_,h|_+1,_,.bool,_,_,_,h|_+1,_,.str,_,_,_,h|_+1,_,.fn,_,_,_,h|_+1,_,.unit,_,_,_,h
 | _+1,_,.sl _,_,_,_,h|_+1,_,.ptr _,_,_,_,h|_+1,_,.arr _ _,_,_,_,h=>by simp[oY] at h
theorem A03 {vs:List Value} (h:vs.length≠1):AT4 vs=.tuple vs.toArray:=by
 match vs,h with
 | [],_=>rfl
 | [v],h=>exact absurd rfl h
 | _ :: _ :: _,_=>rfl
theorem A3F:∀ {n k:Nat} {t:Ty} {f:Fl} {x:t.D} {cs:List (List Value)} {key:Key},f.nopin=true→oY S β2 w n k t f x cs →
  (∀ s b,(tS k s).bind β2=some b→β' (key++s)=some b) →
  zN S β' H w key (AO8 n t) (AZ7 n f) (A98 n t x) cs.flatten∧A9Z (AO8 n t) cs.flatten=oA n t cs
 | 0,_,t,_,_,[],_,_,_,_=>by
  simp only[AO8,AZ7,A98,List.flatten_nil]
  exact⟨yO.2 (by simp[Rd]),by simp[A9Z,oA]⟩
 | n+1,k,.pair a b,f,x,c :: cs,key,hf,h,hb=>by
  simp only[oY] at h
  obtain⟨h1,h2⟩:=h
  have hl:=zO h1
  obtain⟨q1,q2⟩:=A3F (n:=n) (k:=k+1) (key:=key++[1]) (A6O hf) h2 (fun s b' hs=>by
   rw[Bc]
   exact hb (1 :: s) b' (by simpa[tS] using hs))
  have ht:(c++cs.flatten).take a.size=c:=by rw[← hl];simp
  have hd:(c++cs.flatten).drop a.size=cs.flatten:=by rw[← hl];simp
  simp only[AO8,AZ7,A98,Bm,A9Z,oA]
  refine⟨sW.2 ⟨?_,?_⟩,?_⟩
  ·rw[ht]
   refine gR (A00 hf) (zI (fun _ hb=>⟨hb,rfl⟩) (fun s b' hs=>⟨?_,rfl⟩) h1)
   rw[Bc]
   exact hb (0 :: s) b' (by simpa[tS] using hs)
  ·rw[hd];exact q1
  ·rw[ht,hd,q2]
 | 0,_,_,_,_,_ :: _,_,_,h,_=>by simp[oY] at h
 | _+1,_,.pair _ _,_,_,[],_,_,h,_=>by simp[oY] at h
 | _+1,_,.int _,_,_,_,_,_,h,_|_+1,_,.bool,_,_,_,_,_,h,_|_+1,_,.str,_,_,_,_,_,h,_|_+1,_,.fn,_,_,_,_,_,h,_|_+1,_,.unit,_,_,_,_,_,h,_
 | _+1,_,.sl _,_,_,_,_,_,h,_|_+1,_,.ptr _,_,_,_,_,_,h,_|_+1,_,.arr _ _,_,_,_,_,_,h,_=>by simp[oY] at h
theorem A67 {ms:List Mode} {t:Ty} {f fo:Fl} {sl:Nat} {pa:List PS} {o:Io} {rs:List Io} {i:Nat}:gG (.io t f fo sl pa :: ms) (o :: rs) i o.r=some (i,xA o.p):=by simp[gG]
theorem dH {x:Nat} {l:List Nat} (h:oH (x :: l)=true):x ∉ l∧oH l=true:=by
 simp only[oH,Ad,Am] at h
 refine⟨fun hx=>?_,h.2⟩
 have:l.any (Ap x ·)=true:=AB.2 ⟨x,hx,by simp⟩
 rw[this] at h;cases h.1
theorem hJ {S1:Nat→Prop} {β1:Key→Option Nat} (hsame:∀ b,S1 b→S' b∧w2.heap[b]?=w.heap[b]?):∀ {ms:List Mode} {rs:List Io} {cs:List (List Value)} {i:Nat} {t:Ty} {x:t.D} {us:List Up} {G:zW},
  Af7 ms rs t x=some us→Ad4 S2 β2 w2 ms cs i t x→oP H N S1 β1 w V0 ms cs rs i→oH (rs.map Io.r)=true→(∀ r ∈ rs.map Io.r,V r=V0 r) →
  (∀ j m,gG ms rs i j=some m→(∀ s b,β2 ((2 * m.1+1) :: s)=some b→β' (j :: (m.2++s))=some b)∧∀ s b,¬ m.2 <+: s→β1 ((N+m.1) :: s)=some b→β' (j :: s)=some b∧w2.heap[b]?=w.heap[b]?) →
  ((∀ b,S2 b→S' b)∨jL ms=true)→Rel H N G V w2 S' β'→Rel H N (G.ups us) V w2 S' β'
 | [],[],[],i,t,x,us,G,hb,_,_,_,_,_,_,h=>by
  simp only[Af7,Aa] at hb;subst hb;exact h
 | .ro _ :: ms,rs,_ :: cs,i,t,x,us,G,hb,hi,hk,hn,hG,hβ,hc,h=>by
  simp only[Af7] at hb;simp only[Ad4] at hi;simp only[oP] at hk;simp only[gG] at hβ;simp only[jL] at hc
  exact hJ hsame hb hi hk hn hG hβ hc h
 | .mv _ _ :: ms,rs,_ :: cs,i,t,x,us,G,hb,hi,hk,hn,hG,hβ,hc,h=>by
  simp only[Af7] at hb;simp only[Ad4] at hi;simp only[oP] at hk;simp only[gG] at hβ;simp only[jL] at hc
  exact hJ hsame hb hi hk hn hG hβ hc h
 | .io tm f fo sl pa :: ms,o :: rs,c :: cs,i,.pair ta tb,x,us,G,hb,hi,hk,hn,hG,hβ,hc,h=>by
  simp only[Af7] at hb;simp only[Ad4] at hi;simp only[oP] at hk;simp only[jL,Ad] at hc
  obtain⟨rfl,hv,hi⟩:=hi
  obtain⟨⟨hrN,hfo,d0,cr,L,hg,hdt,hgb,hinb,hV0,hold,hw1,hw2,hpins⟩,hk⟩:=hk
  rw[hg] at hb
  simp only at hb
  split at hb
  ·rename_i y hm
   split at hb
   ·obtain⟨us',hb',rfl⟩:=Ae.1 hb
    simp only[Ag] at hn hG
    obtain⟨hr,hn⟩:=dH hn
    have hVr:=hG o.r (by simp)
    obtain⟨hβ1,hβ2⟩:=hβ o.r _ A67
    simp only at hβ1 hβ2
    have hvv:zN S' β' H w2 ([o.r]++xA o.p) ta (d0.f.wrap fo) x.1 c:=by
     refine mI hpins (gR (H:=noH) hfo ?_)
     have h1:zN S2 β' noH w2 ([o.r]++xA o.p) ta fo x.1 c:=zI (fun _ hb=>⟨hb,rfl⟩) (fun s b hb=>⟨by simpa using hβ1 s b (by simpa using hb),rfl⟩) hv
     rcases hc with hc|hc
     ·exact zI (fun b hb=>⟨hc b hb,rfl⟩) (fun s b hb=>⟨hb,rfl⟩) h1
     ·exact pJ hc.1 h1
    have hnew:zN S' β' H w2 [o.r] o.e.t y.1 y.2 cr:=
     pL hsame (k:=[N+i]) hg hgb hinb (by have:=zO hold;simp[zD,this]) hw1 hw2 hm hold hvv (fun s b hs hbb=>by
      have:=hβ2 s b hs (by simpa using hbb)
      simpa using this)
    have h2:Rel H N (G.up (.put o.r (.dat ⟨o.e.t,y.2,y.1⟩))) V w2 S' β':=
     h.put h.sane (fun b hb=>⟨hb,rfl⟩) (fun j s b _ _ hb=>⟨hb,rfl⟩) (fun _ _=>rfl) ⟨cr,hnew,by rw[hVr];exact hV0⟩
    show Rel H N ((G.up (.put o.r (.dat ⟨o.e.t,y.2,y.1⟩))).ups us') V w2 S' β'
    refine hJ hsame (i:=i+1) hb' hi hk hn (fun r' hr'=>hG r' (by simp[hr'])) (fun j m hj=>?_) (hc.imp id (·.2)) h2
    have hne:j≠o.r:=fun e=>hr (e▸dM hj)
    exact hβ j m (by simp only[gG];rw[Aq hne];exact hj)
   ·cases hb
  ·cases hb
 | [],[],_ :: _,_,_,_,_,_,_,hi,_,_,_,_,_,_=>by simp[Ad4] at hi
 | [],_ :: _,_,_,_,_,_,_,hb,_,_,_,_,_,_,_=>by simp[Af7] at hb
 | .ro _ :: _,_,[],_,_,_,_,_,_,hi,_,_,_,_,_,_=>by simp[Ad4] at hi
 | .mv _ _ :: _,_,[],_,_,_,_,_,_,hi,_,_,_,_,_,_=>by simp[Ad4] at hi
 | .io _ _ _ _ _ :: _,_,[],_,_,_,_,_,_,hi,_,_,_,_,_,_=>by simp[Ad4] at hi
 | .io _ _ _ _ _ :: _,[],_ :: _,_,_,_,_,_,_,_,hk,_,_,_,_,_=>by simp[oP] at hk
 | .io _ _ _ _ _ :: _,_ :: _,_ :: _,_,.int _,_,_,_,_,hi,_,_,_,_,_,_|.io _ _ _ _ _ :: _,_ :: _,_ :: _,_,.bool,_,_,_,_,hi,_,_,_,_,_,_|.io _ _ _ _ _ :: _,_ :: _,_ :: _,_,.str,_,_,_,_,hi,_,_,_,_,_,_
 | .io _ _ _ _ _ :: _,_ :: _,_ :: _,_,.fn,_,_,_,_,hi,_,_,_,_,_,_|.io _ _ _ _ _ :: _,_ :: _,_ :: _,_,.unit,_,_,_,_,hi,_,_,_,_,_,_|.io _ _ _ _ _ :: _,_ :: _,_ :: _,_,.sl _,_,_,_,_,hi,_,_,_,_,_,_
 | .io _ _ _ _ _ :: _,_ :: _,_ :: _,_,.ptr _,_,_,_,_,hi,_,_,_,_,_,_|.io _ _ _ _ _ :: _,_ :: _,_ :: _,_,.arr _ _,_,_,_,_,hi,_,_,_,_,_,_=>by simp[Ad4] at hi
theorem Rel.kills (h:Rel H N g V w S β):∀ {os:List Io},Rel H N (g.ups (kills os)) V w S β:=by
 intro os
 induction os generalizing g with
 | nil=>exact h
 | cons o os ih=>exact ih (h.kill fun _ _=>rfl)
theorem A75 {os:List Io} (h:∀ o ∈ os,o.r < N):∀ u ∈ kills os,u.slot < N:=by
 induction os with
 | nil=>simp[Go.Rf.kills]
 | cons o os ih=>
  intro u hu
  simp only[Go.Rf.kills,Ai] at hu
  rcases hu with rfl|hu
  ·exact h o (by simp)
  ·exact ih (fun o ho=>h o (by simp[ho])) u hu
theorem Ah6:∀ {os:List Io} {g:zW},∀ r ∈ os.map Io.r,((g.ups (kills os)) r).sv=.dead
 | [],_,r,h=>by simp at h
 | o :: os,g,r,h=>by
  simp only[Go.Rf.kills,zW.ups]
  by_cases hr:r ∈ os.map Io.r
  ·exact Ah6 r hr
  ·have:r=o.r:=by simp only[Ag,Ai] at h;exact h.resolve_right hr
   subst this
   rw[A1F]
   ·rw[show g.up (.put o.r .dead) o.r=_ from pF (u:=.put o.r .dead)];rfl
   ·intro u hu e
    have key:∀ {os:List Io},u ∈ Go.Rf.kills os→u.slot ∈ os.map Io.r:=by
     intro os
     induction os with
     | nil=>simp[Go.Rf.kills]
     | cons o' os ih=>
      intro hu
      simp only[Go.Rf.kills,Ai] at hu
      rcases hu with rfl|hu
      ·simp[Up.slot]
      ·simp only[Ag,Ai];exact .inr (ih hu)
    exact hr (e▸key hu)
theorem oP.lt:∀ {ms:List Mode} {cs:List (List Value)} {rs:List Io} {k:Nat},oP H N S β w V0 ms cs rs k→∀ o ∈ rs,o.r < N
 | [],[],[],_,_=>by simp
 | .ro _ :: ms,_ :: cs,rs,k,h=>by simp only[oP] at h;exact oP.lt h
 | .mv _ _ :: ms,_ :: cs,rs,k,h=>by simp only[oP] at h;exact oP.lt h
 | .io _ _ _ _ _ :: ms,c :: cs,o :: rs,k,h=>by
  simp only[oP] at h
  intro o' ho'
  rcases Ai.1 ho' with rfl|ho'
  ·exact h.1.lt
  ·exact oP.lt h.2 o' ho'
 | [],[],_ :: _,_,h|[],_ :: _,_,_,h|.ro _ :: _,[],_,_,h|.mv _ _ :: _,[],_,_,h|.io _ _ _ _ _ :: _,[],_,_,h|.io _ _ _ _ _ :: _,_ :: _,[],_,h=>by simp[oP] at h
theorem A5Y {ρ:Operand→Value} {c:Call} {f:FuncId} (ho:o.op=.call c) (hcal:c.callee=.value (.func f)) (hρ:ρ (.func f)=.func (.func f) #[] #[]):
  execOp ρ o=callFunc f (c.args.map ρ):=by
 unfold execOp
 simp[ho,resolve,hcal,Bw,invoke,hρ]
theorem A5R {f:FuncId} {args:Array Value} {K:Act→World→Prop} {Q:Exit→Act→World→Prop} (he:execOp a.eval o=callFunc f args)
  (h:AR1 P f args w fun v w'=>K (a.put o.dst v) w'):o.wp P a w K Q:=by
 unfold Oper.wp
 rw[he]
 rcases h with ⟨fn,h1,h2,h3,h4⟩| ⟨v,w',h1,h2⟩
 ·have hr:(callFunc f args).run P w=.ok (.enter f args) w:=by
   have h2':fn.name ≠ "runtime.NumGoroutine" := fun e=>by rw[e] at h2;simp at h2
   have h3':fn.body≠none:=fun e=>by rw[e] at h3;simp at h3
   simp only[callFunc,go_sem]
   simp[h1,h2',h3']
  rw[hr,Oper.upon_enter]
  exact h4.mono fun e w' he=>by cases e<;>first|exact he|exact he.elim
 ·rw[h1,Oper.upon_value];exact h2
theorem A2H {n d:Nat} {t:Ty} {f:Fl} {x:t.D} {crs:List (List Value)} {rv:SV} {gg:zW} (hr:A7v n (AO8 n t) (A98 n t x) (AZ7 n f)=some rv) (h:oY S2 β2 w n 0 t f x crs) (hf:f.nopin=true)
  (hc:(∀ b,S2 b→S' b)∨sE (AO8 n t) (AZ7 n f)=true) (hβ:∀ s b,(if Ap n 1=true then some (0 :: s) else tS 0 s).bind β2=some b→β' (d :: s)=some b):
  rR H N gg (upd V d (AT4 (oA n t crs))) w S' β' d rv:=by
 have many:n≠1→rv=.tup ⟨AO8 n t,A98 n t x,AZ7 n f⟩→rR H N gg (upd V d (AT4 (oA n t crs))) w S' β' d rv:=by
  intro hn e
  have hn':Ap n 1=false:=by
   cases h:Ap n 1 with
   | false=>rfl
   | true=>exact absurd (Av h) hn
  obtain⟨q1,q2⟩:=A3F (H:=H) (key:=[d]) hf h (fun s b hs=>by simpa using hβ s b (by rw[hn'];exact hs))
  subst e
  refine⟨crs.flatten,?_,?_⟩
  ·rcases hc with hc|hc
   ·exact zI (fun b hb=>⟨hc b hb,rfl⟩) (fun s b hb=>⟨hb,rfl⟩) q1
   ·exact pJ hc q1
  ·rw[A03 (by rw[Ac8 h];exact hn)]
   simp only[upd,AI,A7p,q2]
 match n,h,hr with
 | 0,h,hr=>
  refine many (by omega) ?_
  simp only[A7v,Aa] at hr
  exact hr.symm
 | n+2,h,hr=>
  refine many (by omega) ?_
  simp only[A7v,Aa] at hr
  exact hr.symm
 | 1,h,hr=>
  cases t with
  | pair ta tb=>
   match crs,h with
   | [c],h=>
    simp only[oY] at h
    have hr:(some (.dat ⟨ta,x.1,(Fl.mkpr f.l .sh).l⟩):Option SV)=some rv:=hr
    rw[Aj2] at hr
    simp only[Aa] at hr
    subst hr
    simp only[AO8,AZ7,sE,Aj2,Bool.and_true] at hc
    have h1:zN S2 β' H w [d] ta f.l x.1 c:=gR (H:=noH) (A00 hf) (zI (fun _ hb=>⟨hb,rfl⟩) (fun s b hb=>⟨by simpa using hβ s b (by simpa using hb),rfl⟩) h.1)
    refine⟨c,?_,by simp[upd,oA,AT4]⟩
    rcases hc with hc|hc
    ·exact zI (fun b hb=>⟨hc b hb,rfl⟩) (fun s b hb=>⟨hb,rfl⟩) h1
    ·exact pJ hc h1
   | [],h=>simp[oY] at h
   | _ :: _ :: _,h=>simp[oY] at h
  | _=>simp[oY] at h
theorem Aa2:∀ {xs:List Operand} {vs:List Value},xs.map (evl (qD a) ·)=vs.map some→xs.map a.eval=vs
 | [],[],_=>rfl
 | x :: xs,v :: vs,h=>by
  simp only[Ag,Af] at h ⊢
  exact⟨zH h.1,Aa2 h.2⟩
 | [],_ :: _,h=>by simp at h
 | _ :: _,[],h=>by simp at h
theorem AQ2 {d:Option Nat} {us:List Up} (r:Nat) (v:SV):Up.soften d g us (.put r v)=.mod r v∨Up.soften d g us (.put r v)=.put r v:=by
 by_cases h:(!BG1 d r&&A3z g us r)=true
 ·exact .inl (Ar h)
 ·exact .inr (Aq h)
theorem AX3 {d:Option Nat} {us:List Up} {u:Up}:(Up.soften d g us u).slot=u.slot:=by
 cases u with
 | put r v=>rcases AQ2 (d:=d) (g:=g) (us:=us) r v with e|e<;>rw[e]<;>rfl
 | mod r v=>rfl
 | pub r v=>rfl
theorem A7m {d:Option Nat} {us:List Up} {u:Up}:(Up.soften d g us u).v=u.v:=by
 cases u with
 | put r v=>rcases AQ2 (d:=d) (g:=g) (us:=us) r v with e|e<;>rw[e]<;>rfl
 | mod r v=>rfl
 | pub r v=>rfl
theorem A6A {d:Option Nat} {us:List Up} {u:Up} (a:Slot):((Up.soften d g us u).on a).c=(u.on a).c∧((Up.soften d g us u).on a).u=(u.on a).u:=by
 cases u with
 | put r v=>rcases AQ2 (d:=d) (g:=g) (us:=us) r v with e|e<;>rw[e]<;>exact⟨rfl,rfl⟩
 | mod r v=>exact⟨rfl,rfl⟩
 | pub r v=>exact⟨rfl,rfl⟩
theorem BO9 {u:Up} {a b:Slot} (h1:a.c=b.c) (h2:a.u=b.u):(u.on a).c=(u.on b).c∧(u.on a).u=(u.on b).u:=by
 cases u<;>simp[Up.on,h1,h2]
structure Alike (a b:Slot):Prop where
 sv:a.sv=b.sv
 c:a.c=b.c
 u:a.u=b.u
theorem Up.on_sv (u:Up) (a:Slot):(u.on a).sv=u.v:=by cases u<;>rfl
theorem Up.on_c (u:Up) (a:Slot):a.c≤(u.on a).c∧a.s≤(u.on a).s∧a.u≤(u.on a).u∧((u.on a).c=a.c→(u.on a).s=a.s):=by
 cases u<;>simp[Up.on]
theorem AZ5 (u:Up) (r:Nat):(g.up u) r=if r=u.slot then u.on (g r) else g r:=by
 by_cases h:r=u.slot
 ·rw[Ar h,h,pF]
 ·rw[Aq h,sQ h]
theorem AX2:∀ (us:List Up) (g:zW) (r:Nat),(g r).c≤((g.ups us) r).c∧(g r).s≤((g.ups us) r).s∧(((g.ups us) r).c=(g r).c→((g.ups us) r).s=(g r).s)
 | [],g,r=>⟨Ao _,Ao _,fun _=>rfl⟩
 | u :: us,g,r=>by
  obtain⟨h1,h2,h3⟩:=AX2 us (g.up u) r
  have hu:=Up.on_c u (g r)
  have e:=AZ5 (g:=g) u r
  show (g r).c≤(((g.up u).ups us) r).c∧_
  by_cases h:r=u.slot
  ·rw[Ar h] at e
   rw[e] at h1 h2 h3
   obtain⟨u1,u2,u3,u4⟩:=hu
   refine⟨by omega,show (g r).s≤(((g.up u).ups us) r).s by omega,fun hc=>?_⟩
   have hc:(((g.up u).ups us) r).c=(g r).c:=hc
   have e3:=h3 (by omega)
   have e4:=u4 (by omega)
   show (((g.up u).ups us) r).s=_
   omega
  ·rw[Aq h] at e
   rw[e] at h1 h2 h3
   exact⟨h1,h2,h3⟩
theorem Ap1:∀ (us:List Up) (g:zW) (r:Nat),us.all (fun u=>!u.v.refs)=true→(((g.ups us) r).sv.refs=true→((g.ups us) r).sv=(g r).sv)
 | [],g,r,_,_=>rfl
 | u :: us,g,r,ha,hr=>by
  rw[Bk,Ad] at ha
  have hr':(((g.up u).ups us) r).sv.refs=true:=hr
  have:=Ap1 us (g.up u) r ha.2 hr'
  show (((g.up u).ups us) r).sv=_
  rw[this]
  rw[this,AZ5] at hr'
  rw[AZ5]
  by_cases h:r=u.slot
  ·rw[Ar h,Up.on_sv] at hr'
   rw[hr'] at ha
   exact absurd ha.1 (by decide)
  ·rw[Aq h]
theorem AZ6 {d : Option Nat} {g0 : zW} {us0 : List Up} (r : Nat) : ∀ (us : List Up) (a b : Slot) (g1 g2 : zW), g1 r = a → g2 r = b → Alike a b →
    Alike ((g1.ups (us.map (Up.soften d g0 us0))) r) ((g2.ups us) r) ∧
    (((!BG1 d r && A3z g0 us0 r) = true ∧ ((g1.ups (us.map (Up.soften d g0 us0))) r).s = a.s) ∨
     ((!BG1 d r && A3z g0 us0 r) = false ∧ (a = b → (g1.ups (us.map (Up.soften d g0 us0))) r = (g2.ups us) r)))
  | [], a, b, g1, g2, h1, h2, hab => by
    subst h1 h2
    refine ⟨hab, ?_⟩
    cases hc : (!BG1 d r && A3z g0 us0 r) with
    | true => exact .inl ⟨rfl, rfl⟩
    | false => exact .inr ⟨rfl, fun h => h⟩
  | u :: us, a, b, g1, g2, h1, h2, hab => by
    by_cases hr : r = u.slot
    · have e1 : (g1.up (Up.soften d g0 us0 u)) r = (Up.soften d g0 us0 u).on a := by rw [AZ5, AX3, Ar hr, h1]
      have e2 : (g2.up u) r = u.on b := by rw [AZ5, Ar hr, h2]
      have hal : Alike ((Up.soften d g0 us0 u).on a) (u.on b) := by
        have k1 := A6A (d := d) (g := g0) (us := us0) (u := u) a
        have k2 := BO9 (u := u) hab.c hab.u
        exact ⟨by rw [Up.on_sv, Up.on_sv, A7m], k1.1.trans k2.1, k1.2.trans k2.2⟩
      obtain ⟨q1, q2⟩ := AZ6 r us _ _ _ _ e1 e2 hal
      refine ⟨q1, ?_⟩
      rcases q2 with ⟨hc, q2⟩ | ⟨hc, q2⟩
      · refine .inl ⟨hc, ?_⟩
        show ((((g1.up (Up.soften d g0 us0 u)).ups (us.map (Up.soften d g0 us0)))) r).s = _
        rw [q2]
        cases u with
        | put s v =>
          have hs : r = s := hr
          subst hs
          have e : Up.soften d g0 us0 (.put r v) = .mod r v := Ar hc
          rw [e]; rfl
        | mod s v => simp only [Up.soften, Up.on]
        | pub s v => simp only [Up.soften, Up.on]
      · refine .inr ⟨hc, fun hab => ?_⟩
        subst hab
        refine q2 ?_
        cases u with
        | put s v =>
          have hs : r = s := hr
          subst hs
          have e : Up.soften d g0 us0 (.put r v) = .put r v := Aq (fun h => absurd (h.symm.trans hc) (by decide))
          rw [e]
        | mod s v => rfl
        | pub s v => rfl
    · have e1 : (g1.up (Up.soften d g0 us0 u)) r = a := by rw [AZ5, AX3, Aq hr, h1]
      have e2 : (g2.up u) r = b := by rw [AZ5, Aq hr, h2]
      exact AZ6 r us _ _ _ _ e1 e2 hab
theorem A2e {d:Nat}:∀ (us:List Up) (g:zW),us.any (Ap9 d)=true→(g d).s < ((g.ups us) d).s
 | [],_,h=>by cases h
 | u :: us,g,h=>by
  rw[Bj,Bi] at h
  show _ < (((g.up u).ups us) d).s
  by_cases hu:Ap9 d u=true
  ·have hm:=(AX2 us (g.up u) d).2.1
   cases u with
   | put r v=>
    have hr:d=r:=Av hu
    subst hr
    rw[AZ5,Ar (show d=Up.slot (.put d v) from rfl)] at hm
    have:(Up.on (.put d v) (g d)).s=(g d).s+1:=rfl
    omega
   | mod r v=>cases hu
   | pub r v=>cases hu
  ·have:=A2e us (g.up u) (h.resolve_left hu)
   have h2:(g d).s≤((g.up u) d).s:=(AX2 [u] g d).2.1
   omega
theorem Aj4 {d:Nat}:∀ (us:List Up) (g:zW),us.all (fun u=>!u.v.refs)=true→us.any (Ap9 d)=true→((g.ups us) d).sv.refs=false
 | [],_,_,h=>by cases h
 | u :: us,g,h1,h2=>by
  rw[Bk,Ad] at h1
  by_cases h3:us.any (Ap9 d)=true
  ·exact Aj4 us _ h1.2 h3
  ·rw[Bj,Bi] at h2
   have h4:=h2.resolve_right h3
   cases hq:(((g.up u).ups us) d).sv.refs with
   | false=>exact hq
   | true=>
    have h5:=Ap1 us (g.up u) d h1.2 hq
    rw[h5,AZ5] at hq
    have h6:d=u.slot:=by
     cases u with
     | put r v=>exact Av h4
     | mod r v=>cases h4
     | pub r v=>cases h4
    rw[Ar h6,Up.on_sv] at hq
    rw[hq] at h1
    exact absurd h1.1 (by decide)
theorem A8L {t:Ty} {x y:t.D} {p:List PS} (h:jG p=true) (hi:inB p t x):inB p t y:=by
 cases p with
 | nil=>simp[inB]
 | cons s p=>
  cases s<;>simp only[jG,Bl,Am] at h
  cases t<;>first|(simp only[inB] at hi ⊢;exact AM4 h hi)| (simp[inB] at hi)
theorem Rel.softs {d:Option Nat} {us:List Up} (hb:Rel H N g V w S β) (hs:Sub gv g) (ha:Rel H N (g.ups us) V' w' S' β') (hV:∀ r,d≠some r→V' r=V r):Rel H N (g.ups (Go.Rf.softs d gv us)) V' w' S' β':=by
 unfold Go.Rf.softs
 split
 ·rename_i hcond
  rw[Ad] at hcond
  obtain⟨hrefs,hput⟩:=hcond
  have key:=fun r=>AZ6 (d:=d) (g0:=gv) (us0:=us) r us (g r) (g r) g g rfl rfl ⟨rfl,rfl,rfl⟩
  have mono:=AX2 us g
  refine⟨ha.sane,fun j=>?_⟩
  have hold:=ha.slots j
  have hbef:=hb.slots j
  have hal:=(key j).1
  rw[hal.sv]
  have hsv:=Ap1 us g j hrefs
  have hjd:((g.ups us) j).sv.refs=true→d≠some j:=fun h e=>by
   subst e
   rw[Aj4 us g hrefs hput] at h
   cases h
  have hrd:∀ r s,s≤(g r).s→((g.ups (us.map (Up.soften d gv us))) r).s=s→(g r).s=s∧d≠some r:=fun r s h1 h2=>by
   rcases (key r).2 with ⟨hc,q⟩| ⟨hc,q⟩
   ·refine⟨by omega,fun e=>?_⟩
    subst e
    simp[BG1] at hc
   ·have:=q rfl
    rw[this] at h2
    have:=(mono r).2.1
    refine⟨by omega,fun e=>?_⟩
    subst e
    have:=A2e us g hput
    omega
  generalize hx:((g.ups us) j).sv=x at hold hsv
  cases x with
  | dead=>exact hold
  | nils=>exact hold
  | und=>exact hold
  | unk=>exact hold
  | dat d=>exact hold
  | tup d=>exact hold
  | adr r p c s=>
   rw[← hsv rfl] at hbef
   obtain⟨a1,a2,a3,a4⟩:=hold
   obtain⟨b1,b2,b3,b4⟩:=hbef
   refine⟨a1,by rw[(key r).1.c];exact a2,?_,fun hok=>?_⟩
   ·rcases (key r).2 with ⟨hc,q⟩| ⟨hc,q⟩
    ·omega
    ·rw[q rfl];exact a3
   ·obtain⟨h1,h2⟩:=iX.1 hok
    obtain⟨h3,hd⟩:=hrd r s b3 h1
    rcases (key r).2 with ⟨hc,q⟩| ⟨hc,q⟩
    ·rw[(key r).1.c] at h2
     have hbx:jG p=true∨(g r).c=c:=h2.imp id fun e=>by have:=(mono r).1;omega
     by_cases hcc:((g.ups us) r).c=(g r).c
     ·
      have hse:=(mono r).2.2 hcc
      have:=a4 (iX.2 ⟨by omega,h2⟩)
      intro dr hdr
      rw[(key r).1.sv] at hdr
      exact this dr hdr
     ·have hbx:jG p=true:=by
       rcases h2 with h2|h2
       ·exact h2
       ·have:=(mono r).1;omega
      have hA:=b4 (iX.2 ⟨h3,.inl hbx⟩)
      intro dr hdr
      rw[(key r).1.sv] at hdr
      rw[Ad] at hc
      have hst:=hc.2
      unfold A3z at hst
      have hgr:∀ d0,(gv r).sv=.dat d0→(g r).sv=.dat d0:=fun d0 h=>by
       rcases hs r with h'|h'
       ·rw[h'] at h;cases h
       ·rw[h'];exact h
      have hgu:∀ d0,((gv.ups us) r).sv=.dat d0→(gv r).sv≠.dead→((g.ups us) r).sv=.dat d0:=fun d0 h hn=>by
       have:∀ (us:List Up) (g1 g2:zW),g1 r=g2 r→(g1.ups us) r=(g2.ups us) r:=fun us=>by
        induction us with
        | nil=>exact fun _ _ h=>h
        | cons u us ih=>exact fun g1 g2 h=>ih _ _ (by rw[AZ5,AZ5,h])
       rcases hs r with h'|h'
       ·exact absurd h' hn
       ·rw[this us g gv h'];exact h
      split at hst
      ·rename_i da db e1 e2
       have ht:da.t=db.t:=of_decide_eq_true hst
       have e3:=hgu db e2 (by rw[e1];simp)
       rw[e3] at hdr
       obtain rfl:=SV.dat.inj hdr
       obtain⟨cr,t,b,o,v1,v2,v3,v4,v5,v6⟩:=hA da (hgr da e1)
       refine⟨cr,t,b,o,?_,?_,?_,?_,?_,fun h=>?_⟩
       ·rw[hV r hd,← ht];exact v1
       ·rw[← ht];exact v2
       ·rw[← ht,AB1 (w':=w) hbx];exact v3
       ·have hj:d≠some j:=hjd (by rw[hx];rfl)
        rw[hV j hj];exact v4
       ·have hcast:∀ (t t':Ty) (h:t=t') (x:t.D) (y:t'.D),inB p t x→inB p t' y:=fun t t' h x y hi=>by
         subst h;exact A8L hbx hi
        exact hcast _ _ ht _ _ v5
       ·rw[hbx] at h;cases h
      ·cases hst
    ·have e:=q rfl
     have:=a4 (iX.2 ⟨by rw[← h1,e],by rw[← e];exact h2⟩)
     intro dr hdr
     rw[(key r).1.sv] at hdr
     exact this dr hdr
  | als r p c s=>
   rw[← hsv rfl] at hbef
   obtain⟨a1,a2,a3,a4⟩:=hold
   obtain⟨b1,b2,b3,b4⟩:=hbef
   refine⟨a1,by rw[(key r).1.c];exact a2,?_,fun hok=>?_⟩
   ·rcases (key r).2 with ⟨hc,q⟩| ⟨hc,q⟩
    ·omega
    ·rw[q rfl];exact a3
   ·obtain⟨h2,h1⟩:=dU.1 hok
    obtain⟨h3,hd⟩:=hrd r s b3 h1
    rw[(key r).1.c] at h2
    have hse:=(mono r).2.2 (by have:=(mono r).1;omega)
    have:=a4 (dU.2 ⟨h2,by omega⟩)
    intro dr hdr
    rw[(key r).1.sv] at hdr
    exact this dr hdr
  | pend r p c s u d'=>
   rw[← hsv rfl] at hbef
   obtain⟨a1,a2,a3,a5,a4⟩:=hold
   obtain⟨b1,b2,b3,b5,b4⟩:=hbef
   refine⟨a1,by rw[(key r).1.c];exact a2,?_,by rw[(key r).1.u];exact a5,fun hok=>?_⟩
   ·rcases (key r).2 with ⟨hc,q⟩| ⟨hc,q⟩
    ·omega
    ·rw[q rfl];exact a3
   ·obtain⟨⟨h2,h1⟩,h6⟩:=AQ7.1 hok
    obtain⟨h3,hd⟩:=hrd r s b3 h1
    rw[(key r).1.c] at h2
    rw[(key r).1.u] at h6
    have hse:=(mono r).2.2 (by have:=(mono r).1;omega)
    have:=a4 (AQ7.2 ⟨⟨h2,by omega⟩,h6⟩)
    intro dr hdr
    rw[(key r).1.sv] at hdr
    exact this dr hdr
  | clo h rs=>
   rw[← hsv rfl] at hbef
   obtain⟨a1,a2⟩:=hold
   obtain⟨b1,b2⟩:=hbef
   refine⟨fun x hx=>⟨(a1 x hx).1,?_⟩,fun hall=>?_⟩
   ·have:=(b1 x hx).2
    rcases (key x.1).2 with ⟨hc,q⟩| ⟨hc,q⟩
    ·omega
    ·rw[q rfl];exact (a1 x hx).2
   ·have hh:=fun x hx=>hrd x.1 x.2 (b1 x hx).2 (hall x hx)
    intro vs hvs
    have hm:rs.map (fun x=>V' x.1)=rs.map (fun x=>V x.1):=List.map_congr_left fun x hx=>hV _ (hh x hx).2
    rw[hV j (hjd (by rw[hx];rfl))]
    exact b2 (fun x hx=>(hh x hx).1) vs (by rw[← hm];exact hvs)
 ·exact ha
theorem Ay3 {R:Run E} {c:Call} {f:FuncId} (hR:Ag0 E R) (hc:Ctx E.P H S β a w o g) (hs:Sub gv g) (hm:o.op=.call c) (hcal:c.callee=.value (.func f))
  (hk:AD1 E R gv o f c.args.toList some=some us) (K:Act→World→Prop) (Q:Exit→Act→World→Prop)
  (hK:∀ a' w' S' β',a'.tmps.size=a.tmps.size→a'.defers=a.defers→(∀ r,o.dst≠some r→qD a' r=qD a r)→Rel H a.tmps.size (g.ups us) (qD a') w' S' β'→Step w S β w' S' β'→K a' w'):o.wp E.P a w K Q:=by
 unfold AD1 at hk
 split at hk
 ·rename_i p hp
  split at hk
  ·rename_i ds lent hd
   split at hk
   ·rename_i hcond
    obtain⟨x,hx,hk⟩:=Ac.1 hk
    simp only[Ad,Bi,Am,List.isEmpty_iff] at hcond
    obtain⟨⟨hsh,hrf⟩,hnd⟩:=hcond
    have hgv:yD a.tmps.size gv:=fun i hi=>by
     rcases hs i with h|h
     ·exact h
     ·rw[← h];exact hc.dead i hi
    obtain⟨G',V',S1,β1,r1,r2,r3,r4,r5,r6,r7,r8,r9⟩:=AI1 (V0:=qD a) (k:=0) hc.rel hs hgv (fun i hi=>hc.dead i (by omega)) (fun _ _=>rfl) hp
    have hks:∀ j,0≤j→AT2 (E.cfg f).modes p.ios 0 j=AT2 (E.cfg f).modes p.ios 0 j:=fun _ _=>rfl
    obtain⟨cs,q1,q2,q3,q4⟩:=kC (ks:=AT2 (E.cfg f).modes p.ios 0) r1 r3 r4 (fun i hi=>r6 i (by omega)) r8 hks hd
    have q4:=q4 lent (fun _ h=>h)
    split at hk
    ·rename_i rv usb hrv hbk
     have hargs:(yH ds cs).toArray=c.args.map a.eval:=by
      have:=Aa2 q1
      apply Bx.1
      rw[← this];simp
     refine A5R (A5Y hm hcal rfl) ?_
     rw[← hargs]
     refine (hR f ds x hx w _ _ cs (A0W r1.sane q2) q4).mono fun v w2 ⟨S2,β2,crs,s1,s2,s3,s4,s5⟩=>?_
     obtain⟨S'',hS1,hS2⟩:∃ S'':Nat→Prop,((S''=S2∧lent=[])∨S''=S1)∧((∀ b,S2 b→S'' b)∨(sE (AO8 (E.cfg f).nres (E.cfg f).rt) (AZ7 (E.cfg f).nres (E.cfg f).rf)=true∧jL (E.cfg f).modes=true)):=by
      rcases hsh with h|h
      ·refine⟨S1,.inr rfl,.inr ?_⟩
       simpa[A64] using h
      ·exact⟨S2,.inl ⟨rfl,h⟩,.inl fun _ h=>h⟩
     have hio:∀ j j' m m',gG (E.cfg f).modes p.ios 0 j=some m→gG (E.cfg f).modes p.ios 0 j'=some m'→m.1=m'.1→j=j':=fun _ _ _ _=>AW7
     have hioks:∀ j m,gG (E.cfg f).modes p.ios 0 j=some m→AT2 (E.cfg f).modes p.ios 0 m.1=m.2:=fun _ _=>Ao7
     obtain⟨sane2,step2⟩:=A5a (N:=a.tmps.size) (one:=Ap (E.cfg f).nres 1) (dst:=o.dst) hio hioks r1.sane s1 s2 hS1
     have stepA:=r2.trans step2
     have hsame:=s2.same (A0W r1.sane q2)
     have hSame:∀ b,S1 b→S'' b∧w2.heap[b]?=w.heap[b]?:=fun b hb=>⟨step2.keepS b hb,(hsame b (.inl hb)).2⟩
     have hkl:=A75 (N:=a.tmps.size) q3.lt
     have hdead:yD a.tmps.size ((g.ups p.ups).ups (kills p.ios)):=(hc.dead.ups r9).ups hkl
     have rel1:Rel H a.tmps.size ((g.ups p.ups).ups (kills p.ios)) (qD a) w S1 β1:=
      (r1.fin (g':=g.ups p.ups) (V':=qD a) (fun i hi=>(r5 i hi).symm) (hc.dead.ups r9) (fun i hi=>(r6 i (by omega)).symm)).kills
     have hfar:∀ j s κ b,j < a.tmps.size→Was a.tmps.size (gG (E.cfg f).modes p.ios 0) j s κ→β1 κ=some b→w2.heap[b]?=w.heap[b]?:=fun j s κ b hj hw hb=>s2.old b (r1.sane.live _ _ hb) fun k hk=>by
      cases k with
      | nil=>simp[AH7] at hk
      | cons i s'=>
       have:=r1.sane.inj _ _ _ hb hk
       rcases hw with ⟨_,rfl⟩| ⟨m,hm',hst,rfl⟩
       ·simp only[Af] at this;omega
       ·simp only[Af] at this
        have hi:i=m.1:=by omega
        subst hi
        rw[hioks j m hm'] at this
        exact iI hst _ this.2
     have hβ:∀ j s b,o.dst≠some j→(((g.ups p.ups).ups (kills p.ios)) j).sv≠.dead→β1 (j :: s)=some b→AO6 a.tmps.size (Ap (E.cfg f).nres 1) o.dst (gG (E.cfg f).modes p.ios 0) β1 β2 (j :: s)=some b∧w2.heap[b]?=w.heap[b]?:=by
      intro j s b hj ha hb
      have hjN:=hdead.lt ha
      have hio0:gG (E.cfg f).modes p.ios 0 j=none:=by
       cases hq:gG (E.cfg f).modes p.ios 0 j with
       | none=>rfl
       | some m=>exact absurd (Ah6 j (dM hq)) ha
      refine⟨?_,hfar j s _ b hjN (.inl ⟨hio0,rfl⟩) hb⟩
      simp only[AO6]
      rw[Aq (by omega)]
      unfold A7e
      rw[Aq hj,hio0]
      simp only[Option.bind_none]
      rw[Aq hj];exact hb
     have hβio:∀ j m,o.dst≠some j→gG (E.cfg f).modes p.ios 0 j=some m→(∀ s b,β2 ((2 * m.1+1) :: s)=some b→AO6 a.tmps.size (Ap (E.cfg f).nres 1) o.dst (gG (E.cfg f).modes p.ios 0) β1 β2 (j :: (m.2++s))=some b) ∧
       ∀ s b,¬ m.2 <+: s→β1 ((a.tmps.size+m.1) :: s)=some b→AO6 a.tmps.size (Ap (E.cfg f).nres 1) o.dst (gG (E.cfg f).modes p.ios 0) β1 β2 (j :: s)=some b∧w2.heap[b]?=w.heap[b]?:=by
      intro j m hj hm'
      have hjN:j < a.tmps.size:=by
       obtain⟨o',ho',e⟩:=Aw.1 (dM hm')
       rw[← e];exact q3.lt o' ho'
      refine⟨fun s b hb=>?_,fun s b hs hb=>?_⟩
      ·simp only[AO6]
       rw[Aq (Nat.not_le.2 hjN)]
       unfold A7e
       rw[Aq hj,hm']
       simp only[Bf,A0V,AW]
       exact hb
      ·have hst:sA m.2 s=none:=by
        cases hq:sA m.2 s with
        | none=>rfl
        | some s'=>exact absurd ⟨s',(pU.1 hq).symm⟩ hs
       refine⟨?_,hfar j s _ b hjN (.inr ⟨m,hm',hst,rfl⟩) hb⟩
       simp only[AO6]
       rw[Aq (Nat.not_le.2 hjN)]
       unfold A7e
       rw[Aq hj,hm']
       simp only[Bf,hst,Option.map_none]
       rw[Aq hj];exact hb
     have hcl:(∀ b,S2 b→S'' b)∨jL (E.cfg f).modes=true:=hS2.imp id (·.2)
     split at hk
     ·rename_i d hdst
      split at hk
      ·cases hk
      ·rename_i hany
       simp only[Aa] at hk
       subst hk
       have hdN:=xF hc.opIn hdst
       have hne:∀ r ∈ p.ios.map Io.r,r≠d:=fun r hr e=>hany (by
        subst e
        obtain⟨y,hy,e⟩:=Aw.1 hr
        exact AB.2 ⟨y,hy,by rw[e];exact Nat.beq_refl r⟩)
       refine hK _ _ _ _ wG yN (fun r hr=>by rw[hdst,vE hdN];rw[hdst] at hr;unfold upd;rw[Aq (fun e=>hr (by rw[e]))]) ?_ stepA
       rw[hdst,vE hdN,yQ,yQ]
       show Rel H a.tmps.size ((((g.ups p.ups).ups (kills p.ios)).up (.put d rv)).ups usb) _ w2 S'' _
       have hβd:∀ s b,(if Ap (E.cfg f).nres 1=true then some (0 :: s) else tS 0 s).bind β2=some b→AO6 a.tmps.size (Ap (E.cfg f).nres 1) o.dst (gG (E.cfg f).modes p.ios 0) β1 β2 (d :: s)=some b:=fun s b hb=>by
        simp only[AO6]
        rw[Aq (by omega)]
        unfold A7e
        rw[Ar hdst]
        obtain⟨q,hq,hb⟩:=Ac.1 hb
        rw[hq];exact hb
       have rel2:Rel H a.tmps.size (((g.ups p.ups).ups (kills p.ios)).up (.put d rv)) (upd (qD a) d v) w2 S'' _:=
        rel1.put sane2 hSame (fun j s b hj=>hβ j s b (fun e=>hj (by rw[hdst] at e;exact (As e).symm))) (fun j hj=>by simp[upd,hj]) (by
         rw[s4];exact A2H hrv s3 hrf (hS2.imp id (·.1)) hβd)
       rw[hdst] at rel2 hβio
       refine hJ (i:=0) (V0:=qD a) hSame hbk s5 q3 hnd (fun r hr=>?_) (fun j m hj=>hβio j m (fun e=>?_) hj) hcl rel2
       ·simp[upd,hne r hr]
       ·exact hne j (dM hj) (As e).symm
     ·rename_i hdst
      simp only[Aa] at hk
      subst hk
      refine hK _ _ _ _ wG yN (fun r _=>by rw[hdst];rfl) ?_ stepA
      rw[hdst,yQ,yQ]
      show Rel H a.tmps.size (((g.ups p.ups).ups (kills p.ios)).ups usb) (qD a) w2 S'' _
      have rel2:Rel H a.tmps.size (((g.ups p.ups).ups (kills p.ios)).up (.put a.tmps.size .dead)) (qD a) w2 S'' _:=
       rel1.put sane2 hSame (fun j s b _=>hβ j s b (by rw[hdst];simp)) (fun _ _=>rfl) trivial
      have rel3:Rel H a.tmps.size ((g.ups p.ups).ups (kills p.ios)) (qD a) w2 S'' _:=rel2.fin (fun i hi=>(rF (by omega)).symm) hdead (fun _ _=>rfl)
      rw[hdst] at rel3 hβio
      exact hJ (i:=0) (V0:=qD a) hSame hbk s5 q3 hnd (fun r hr=>rfl) (fun j m hj=>hβio j m (by simp) hj) hcl rel3
    ·cases hk
   ·cases hk
  ·cases hk
 ·cases hk
theorem A2Z {R:Run E} {c:Call} {f:FuncId} (hR:Ag0 E R) (hc:Ctx E.P H S β a w o g) (hs:Sub gv g) (hm:o.op=.call c) (hcal:c.callee=.value (.func f))
  (hk:AV3 E R gv o f c.args.toList some=some us):yF E.P H S β a w o (g.ups us):=by
 unfold AV3 at hk
 rw[iY] at hk
 obtain⟨us0,h0,h1⟩:=Ac.1 hk
 obtain rfl:=As h1
 intro K Q hK
 exact Ay3 hR hc hs hm hcal h0 K Q fun a' w' S' β' e1 e2 e3 e4 e5=>hK a' w' S' β' e1 e2 (hc.rel.softs hs e4 e3) e5
end
end Go.Rf

end
section
namespace Go.Rf
set_option linter.unusedSectionVars false
variable [T:Laid]
section
variable {P:Program} {H:Nat→Option (List Value)} {N:Nat} {g g' G σ:zW} {V V' V0:Nat→Option Value} {w w' w2:World} {S S' S2:Nat→Prop} {β β' β2:Key→Option Nat} {a:Act} {o:Oper}
variable {E:Env} {gv:zW} {us:List Up}
def cY (S:Nat→Prop) (w:World):List Dyn→List (List Value)→Prop
 | [],[]=>True
 | d :: ds,c :: cs=>Rd S w d.t d.x c∧cY S w ds cs
 | _,_=>False
theorem A6k:∀ {ms:List Mode} {ds:List Dyn} {cs:List (List Value)} {i:Nat},Af9 ms ds=true→cY S w ds cs→sF S β w ms ds cs i
 | [],[],[],_,_,_=>by simp[sF]
 | .ro t :: ms,d :: ds,c :: cs,i,h,k=>by
  simp only[Af9,Ad,A8] at h
  simp only[cY] at k
  exact⟨h.1,k.1,A6k h.2 k.2⟩
 | [],[],_ :: _,_,_,k=>by simp[cY] at k
 | [],_ :: _,_,_,h,_=>by simp[Af9] at h
 | _ :: _,[],_,_,h,_=>by simp[Af9] at h
 | _ :: _,_ :: _,[],_,_,k=>by simp[cY] at k
 | .mv _ _ :: _,_ :: _,_,_,h,_=>by simp[Af9] at h
 | .io _ _ _ _ _ :: _,_ :: _,_,_,h,_=>by simp[Af9] at h
theorem AS7:∀ {ds ds':List Dyn} {cs cs':List (List Value)},cY S w ds cs→cY S w ds' cs'→cY S w (ds++ds') (cs++cs')∧yH (ds++ds') (cs++cs')=yH ds cs++yH ds' cs'
 | [],_,[],_,_,h=>⟨h,by simp[yH]⟩
 | d :: ds,ds',c :: cs,cs',h,h'=>by
  simp only[cY] at h
  obtain⟨q1,q2⟩:=AS7 h.2 h'
  exact⟨⟨h.1,q1⟩,by simp only[Ah,yH,q2]⟩
 | [],_,_ :: _,_,h,_=>by simp[cY] at h
 | _ :: _,_,[],_,h,_=>by simp[cY] at h
theorem Ao8:∀ {cs:FCaps} {l:List Value},qY S w cs l→∃ c,cY S w (gE cs) c∧yH (gE cs) c=l
 | .nil,l,h=>by simp only[qY] at h;subst h;exact⟨[],by simp[gE,cY],by simp[gE,yH]⟩
 | .int k n r,l,h=>by
  simp only[qY] at h
  obtain⟨b,l',rfl,h1,h2,h3⟩:=h
  obtain⟨c,q1,q2⟩:=Ao8 h3
  refine⟨[.pointer (some ⟨b,0,none⟩)] :: c,⟨?_,q1⟩,by simp only[gE,yH,q2];rfl⟩
  simp only[Rd]
  exact⟨b,_,rfl,h1,h2,rfl,rfl⟩
 | .fn v r,l,h=>by
  simp only[qY] at h
  obtain⟨b,u,l',rfl,h1,h2,h3,h4⟩:=h
  obtain⟨c,q1,q2⟩:=Ao8 h4
  refine⟨[.pointer (some ⟨b,0,none⟩)] :: c,⟨?_,q1⟩,by simp only[gE,yH,q2];rfl⟩
  simp only[Rd]
  exact⟨b,_,rfl,h1,h2,rfl,u,rfl,h3⟩
theorem AU5:∀ {ts:List (Option Ty)} {xs:List Operand} {ds:List Dyn},Rel H N g V w S β→fE g ts xs=some ds→∃ cs,cY (Au9 S β) w ds cs∧xs.map (evl V ·)=(yH ds cs).map some
 | [],[],ds,_,h=>by simp only[fE,Aa] at h;subst h;exact⟨[],by simp[cY],by simp[yH]⟩
 | some t :: ts,x :: xs,ds,hr,h=>by
  simp only[fE] at h
  split at h
  ·rename_i d hd
   split at h
   ·obtain⟨ds',h',rfl⟩:=Ae.1 h
    obtain⟨cs,q1,q2⟩:=AU5 hr h'
    obtain⟨c,e1,e2⟩:=tM hr hd
    exact⟨c :: cs,⟨e2,q1⟩,by simp only[Ag,yH,q2,e1]⟩
   ·cases h
  ·cases h
 | [],_ :: _,_,_,h=>by simp[fE] at h
 | none :: _,_,_,_,h=>by simp[fE] at h
 | some _ :: _,[],_,_,h=>by simp[fE] at h
theorem Ad0 (hs:Sub gv g):∀ {ts:List (Option Ty)} {xs:List Operand} {ds:List Dyn},fE gv ts xs=some ds→fE g ts xs=some ds
 | [],[],ds,h=>h
 | some t :: ts,x :: xs,ds,h=>by
  simp only[fE] at h ⊢
  split at h
  ·rename_i d hd
   rw[uD hs hd]
   simp only
   split at h
   ·rename_i hc
    rw[Ar hc]
    obtain⟨ds',h',rfl⟩:=Ae.1 h
    rw[Ad0 hs h'];rfl
   ·cases h
  ·cases h
 | [],_ :: _,_,h=>by simp[fE] at h
 | none :: _,_,_,h=>by simp[fE] at h
 | some _ :: _,[],_,h=>by simp[fE] at h
theorem A3Z {ρ:Operand→Value} {c:Call} {s:Nat} {f:FuncId} {l:List Value} (ho:o.op=.call c) (hcal:c.callee=.value (.tmp s)) (hρ:ρ (.tmp s)=.func (.func f) #[] l.toArray):
  execOp ρ o=callFunc f (c.args.map ρ++l.toArray):=by
 unfold execOp
 simp[ho,resolve,hcal,Bw,invoke,hρ]
theorem A3h {τ t:Ty} (h:t=.pair τ .unit) {f:Fl} {x:t.D} {crs:List (List Value)} (hr:oY S β w 1 0 t f x crs) (hf:f.l.whole=true) (hc:sE τ .sh=true):
  ∃ c,Rd S' w τ ((cast (Bp Ty.D h) x:(Ty.pair τ .unit).D)).1 c∧AT4 (oA 1 t crs)=zV τ c:=by
 subst h
 match crs,hr with
 | [c],hr=>
  simp only[oY] at hr
  exact⟨c,aK (iP hc) (wY (S':=fun _=>True) hf (fun _ _=>trivial) (fun _ _ _=>trivial) hr.1),rfl⟩
 | [],hr=>simp[oY] at hr
 | _ :: _ :: _,hr=>simp[oY] at hr
theorem Ay6 {R:Run E} {c:Call} {s:Nat} {v:FnVal} {ff:Fl} (hR:Ag0 E R) (hc:Ctx E.P H S β a w o g) (hs:Sub gv g) (hm:o.op=.call c) (hcal:c.callee=.value (.tmp s))
  (hd:yK gv (gv s).sv=some ⟨.fn,v,ff⟩) (hk:cX E R gv o v c.args.toList c.argTypes.toList some=some us):yF E.P H S β a w o (g.ups us):=by
 unfold cX at hk
 split at hk
 ·rename_i ds τ h1 h2
  split at hk
  ·rename_i hcl
   obtain⟨y,hy,hk⟩:=Ac.1 hk
   obtain⟨d,hdst,rfl⟩:=yG hk
   have hdN:=xF hc.opIn hdst
   unfold A6d at hy
   split at hy
   ·cases hy
   ·rename_i f caps
    split at hy
    ·rename_i hrt
     split at hy
     ·rename_i hcond
      simp only[Ad] at hcond
      obtain⟨⟨hn,hros⟩,hwh⟩:=hcond
      obtain⟨x,hx,rfl⟩:=Ae.1 hy
      have hn1:(E.cfg f).nres=1:=Av hn
      obtain⟨cf,hcf,hrd⟩:=tM (x:=.tmp s) hc.rel (uD (x:=.tmp s) hs hd)
      simp only[Rd] at hrd
      obtain⟨u,rfl,hfn⟩:=hrd
      simp only[Aw7] at hfn
      obtain⟨l,rfl,hcaps⟩:=hfn
      obtain⟨cc,k1,k2⟩:=Ao8 hcaps
      obtain⟨cs,q1,q2⟩:=AU5 hc.rel (Ad0 hs h1)
      obtain⟨j1,j2⟩:=AS7 q1 k1
      have he:=A3Z (o:=o) (l:=l) hm hcal (zH hcf)
      intro K Q hK
      refine A5R he ?_
      have hargs:(yH (ds++gE caps) (cs++cc)).toArray=c.args.map a.eval++l.toArray:=by
       apply Bx.1
       rw[j2,k2]
       have:=Aa2 q2
       simp[← this]
      rw[← hargs]
      have hseen:∀ b,Au9 S β b→b < w.heap.size:=fun b hb=>by
       rcases hb with hb|⟨k,hb⟩
       ·exact hc.rel.sane.liveS b hb
       ·exact hc.rel.sane.live k b hb
      refine (hR f _ x hx w (Au9 S β) (fun _=>none) _ ⟨fun _ _ _ h=>by simp at h,fun _ _ h=>by simp at h,fun _ _ h=>by simp at h,hseen,hc.rel.sane.tabs fun b hb=>⟨.inl hb,rfl⟩⟩ (A6k hros j1)).mono
       fun v w2 ⟨S2,β2,crs,s1,s2,s3,s4,s5⟩=>?_
      have heap:∀ b,b < w.heap.size→w2.heap[b]?=w.heap[b]?:=fun b hb=>s2.old b hb (fun k=>by simp)
      have hsane:Sane w2 S β:=⟨hc.rel.sane.inj,hc.rel.sane.sep,fun k b h=>AK (hc.rel.sane.live k b h) s2.size,fun b h=>AK (hc.rel.sane.liveS b h) s2.size,hc.rel.sane.tabs fun b hb=>⟨hb,heap b (hc.rel.sane.liveS b hb)⟩⟩
      have hstep:Step w S β w2 S β:=⟨s2.size,fun b hb _=>heap b hb,fun k b h=>.inl ⟨k,h⟩,fun _ h=>h,fun _ h=>.inl h,s2.out⟩
      refine hK _ _ _ _ wG yN ?_ hstep
      rw[hdst,vE hdN]
      rw[hn1] at s3 s4
      obtain⟨c,hrd,hval⟩:=A3h (S':=S) hrt s3 hwh hcl
      exact hc.rel.put hsane (fun b hb=>⟨hb,heap b (hc.rel.sane.liveS b hb)⟩) (fun j s b _ _ hb=>⟨hb,heap b (hc.rel.sane.live _ _ hb)⟩) (fun j hj=>by simp[upd,hj])
       (AV8 hrd (s4.trans hval))
     ·cases hy
    ·cases hy
  ·cases hk
 ·cases hk
theorem A8a {R:Run E} (hR:Ag0 E R):AG7 E R:=by
 intro H S β a w o g gv us hc hs
 exact⟨fun c f hm hcal hk=>A2Z hR hc hs hm hcal hk,fun c s v f hm hcal hd hk=>Ay6 hR hc hs hm hcal hd hk⟩
end
end Go.Rf

end
section
namespace Go.Rf
set_option linter.unusedSectionVars false
variable [T:Laid]
section
variable {P:Program} {H:Nat→Option (List Value)} {N:Nat} {g g' G σ:zW} {V V' V0:Nat→Option Value} {w w' w2:World} {S S' S2:Nat→Prop} {β β' β2:Key→Option Nat} {a:Act} {o:Oper}
variable {E:Env} {gv:zW} {us:List Up}
structure Ent where
 m:Nat
 slot:Nat
 path:Key
 t:Ty
 f:Fl
def Ent.key (e:Ent):Key:=e.slot :: e.path
def BD5 (L:List Ent) (β:Key→Option Nat) (k:Key) (b:Nat):Prop:=∃ e ∈ L,∃ s,k=e.m :: s∧sB e.t e.f s=true∧β (e.key++s)=some b
open Classical in
noncomputable def A0Z (L:List Ent) (β:Key→Option Nat) (k:Key):Option Nat:=if h:∃ b,BD5 L β k b then some h.choose else none
def A96 (L:List Ent) (S:Nat→Prop) (β:Key→Option Nat):Nat→Prop:=fun b=>S b∨((∃ k,β k=some b)∧¬ ∃ k,A0Z L β k=some b)
structure Apart (L:List Ent):Prop where
 m:∀ e ∈ L,∀ e' ∈ L,e.m=e'.m→e=e'
 slot:∀ e ∈ L,∀ e' ∈ L,e.slot=e'.slot→e=e'
theorem jU {L:List Ent} {k:Key} {b:Nat} (h:A0Z L β k=some b):BD5 L β k b:=by
 unfold A0Z at h
 split at h
 ·rename_i hb
  simp only[Aa] at h;rw[← h];exact hb.choose_spec
 ·cases h
theorem A8V {L:List Ent} (hL:Apart L) {e:Ent} (he:e ∈ L) {s:Key} {b:Nat} (ho:sB e.t e.f s=true) (hb:β (e.key++s)=some b):A0Z L β (e.m :: s)=some b:=by
 have hx:∃ b,BD5 L β (e.m :: s) b:=⟨b,e,he,s,rfl,ho,hb⟩
 unfold A0Z
 rw[dif_pos hx]
 obtain⟨e',he',s',h1,h2,h3⟩:=hx.choose_spec
 simp only[Af] at h1
 have:=hL.m e he e' he' h1.1
 subst this
 rw[← h1.2,hb] at h3
 exact h3.symm
theorem BB7 {L:List Ent} (hL:Apart L) (hs:Sane w S β):Sane w (A96 L S β) (A0Z L β)∧Step w S β w (A96 L S β) (A0Z L β) ∧
  ∀ e ∈ L,∀ f0 (x:e.t.D) c,zN S β H w e.key e.t f0 x c→Fl.le e.f f0=true→zN (A96 L S β) (A0Z L β) H w [e.m] e.t e.f x c:=by
 refine⟨⟨fun k k' b h h'=>?_,fun k b h hb=>?_,fun k b h=>?_,fun b hb=>?_,hs.tabs fun b hb=>⟨.inl hb,rfl⟩⟩,⟨Ao _,fun _ _ _=>rfl,fun k b h=>?_,fun b hb=>.inl hb,fun b hb=>?_,.rfl'⟩,fun e he f0 x c hv hle=>?_⟩
 ·obtain⟨e,he,s,rfl,_,h1⟩:=jU h
  obtain⟨e',he',s',rfl,_,h1'⟩:=jU h'
  have:=hs.inj _ _ _ h1 h1'
  simp only[Ent.key,Ah,Af] at this
  have e2:=hL.slot e he e' he' this.1
  subst e2
  rw[AL this.2]
 ·obtain⟨e,he,s,rfl,_,h1⟩:=jU h
  rcases hb with hb|⟨_,hb⟩
  ·exact hs.sep _ _ h1 hb
  ·exact hb ⟨_,h⟩
 ·obtain⟨e,he,s,rfl,_,h1⟩:=jU h
  exact hs.live _ _ h1
 ·rcases hb with hb|⟨⟨k,hb⟩,_⟩
  ·exact hs.liveS b hb
  ·exact hs.live _ _ hb
 ·obtain⟨e,he,s,rfl,_,h1⟩:=jU h
  exact .inl ⟨_,h1⟩
 ·rcases hb with hb|⟨hb,_⟩
  ·exact .inl hb
  ·exact .inr (.inl hb)
 ·refine bP (fun b hb=>⟨.inl hb,rfl⟩) hle (fun s b hb=>⟨rfl,fun ho=>A8V hL he ho hb,fun ho=>?_⟩) hv
  refine .inr ⟨⟨_,hb⟩,fun ⟨k,hk⟩=>?_⟩
  obtain⟨e',he',s',rfl,ho',h1⟩:=jU hk
  have:=hs.inj _ _ _ hb h1
  simp only[Ent.key,Ah,Af] at this
  have e2:=hL.slot e he e' he' this.1
  subst e2
  rw[AL this.2,ho'] at ho;cases ho
def A6w:ResultVar→Key
 | .tmp _=>[]
 | .cell _ _=>[0]
def sG:List ResultVar→Nat→Ty→Fl→List Ent
 | r :: rs,k,.pair a b,f=>⟨2 * k,AP3 r,A6w r,a,f.l⟩ :: sG rs (k+1) b f.r
 | _,_,_,_=>[]
def sU:List Mode→Nat→List Ent
 | .io t _ fo s p :: ms,i=>⟨2 * i+1,s,xA p,t,fo⟩ :: sU ms (i+1)
 | .ro _ :: ms,i=>sU ms (i+1)
 | .mv _ _ :: ms,i=>sU ms (i+1)
 | [],_=>[]
theorem bJ:∀ {rs:List ResultVar} {k:Nat} {t:Ty} {f:Fl},∀ e ∈ sG rs k t f,∃ j,e.m=2 * j∧k≤j
 | r :: rs,k,.pair a b,f,e,he=>by
  simp only[sG,Ai] at he
  rcases he with rfl|he
  ·exact⟨k,rfl,Ao _⟩
  ·obtain⟨j,h1,h2⟩:=bJ e he;exact⟨j,h1,by omega⟩
 | [],_,_,_,_,he=>by simp[sG] at he
 | _ :: _,_,.int _,_,_,he|_ :: _,_,.bool,_,_,he|_ :: _,_,.str,_,_,he|_ :: _,_,.fn,_,_,he|_ :: _,_,.unit,_,_,he
 | _ :: _,_,.sl _,_,_,he|_ :: _,_,.ptr _,_,_,he|_ :: _,_,.arr _ _,_,_,he=>by simp[sG] at he
theorem Ab4:∀ {rs:List ResultVar} {k:Nat} {t:Ty} {f:Fl},∀ e ∈ sG rs k t f,∀ e' ∈ sG rs k t f,e.m=e'.m→e=e'
 | r :: rs,k,.pair a b,f,e,he,e',he',h=>by
  simp only[sG,Ai] at he he'
  rcases he with rfl|he<;>rcases he' with rfl|he'
  ·rfl
  ·obtain⟨j,h1,h2⟩:=bJ e' he';simp only at h;omega
  ·obtain⟨j,h1,h2⟩:=bJ e he;simp only at h;omega
  ·exact Ab4 e he e' he' h
 | [],_,_,_,_,he,_,_,_=>by simp[sG] at he
 | _ :: _,_,.int _,_,_,he,_,_,_|_ :: _,_,.bool,_,_,he,_,_,_|_ :: _,_,.str,_,_,he,_,_,_|_ :: _,_,.fn,_,_,he,_,_,_|_ :: _,_,.unit,_,_,he,_,_,_
 | _ :: _,_,.sl _,_,_,he,_,_,_|_ :: _,_,.ptr _,_,_,he,_,_,_|_ :: _,_,.arr _ _,_,_,he,_,_,_=>by simp[sG] at he
theorem dJ:∀ {ms:List Mode} {i:Nat},∀ e ∈ sU ms i,∃ j,e.m=2 * j+1∧i≤j
 | .io t _ fo s p :: ms,i,e,he=>by
  simp only[sU,Ai] at he
  rcases he with rfl|he
  ·exact⟨i,rfl,Ao _⟩
  ·obtain⟨j,h1,h2⟩:=dJ e he;exact⟨j,h1,by omega⟩
 | .ro _ :: ms,i,e,he=>by simp only[sU] at he;obtain⟨j,h1,h2⟩:=dJ e he;exact⟨j,h1,by omega⟩
 | .mv _ _ :: ms,i,e,he=>by simp only[sU] at he;obtain⟨j,h1,h2⟩:=dJ e he;exact⟨j,h1,by omega⟩
 | [],_,_,he=>by simp[sU] at he
theorem AB4:∀ {ms:List Mode} {i:Nat},∀ e ∈ sU ms i,∀ e' ∈ sU ms i,e.m=e'.m→e=e'
 | .io t _ fo s p :: ms,i,e,he,e',he',h=>by
  simp only[sU,Ai] at he he'
  rcases he with rfl|he<;>rcases he' with rfl|he'
  ·rfl
  ·obtain⟨j,h1,h2⟩:=dJ e' he';simp only at h;omega
  ·obtain⟨j,h1,h2⟩:=dJ e he;simp only at h;omega
  ·exact AB4 e he e' he' h
 | .ro _ :: ms,i,e,he,e',he',h=>by simp only[sU] at he he';exact AB4 e he e' he' h
 | .mv _ _ :: ms,i,e,he,e',he',h=>by simp only[sU] at he he';exact AB4 e he e' he' h
 | [],_,_,he,_,_,_=>by simp[sU] at he
theorem pE:∀ {ms:List Mode} {i:Nat},(sU ms i).map Ent.slot=kN ms
 | .io t _ fo s p :: ms,i=>by simp only[sU,kN,Ag,pE]
 | .ro _ :: ms,i=>by simp only[sU,kN];exact pE
 | .mv _ _ :: ms,i=>by simp only[sU,kN];exact pE
 | [],_=>rfl
theorem mJ:∀ {rs:List ResultVar} {k:Nat} {t:Ty} {f:Fl},∀ s ∈ (sG rs k t f).map Ent.slot,s ∈ rs.map AP3
 | r :: rs,k,.pair a b,f,s,hs=>by
  simp only[sG,Ag,Ai] at hs ⊢
  exact hs.imp id fun h=>mJ s h
 | [],_,_,_,_,he=>by simp[sG] at he
 | _ :: _,_,.int _,_,_,he|_ :: _,_,.bool,_,_,he|_ :: _,_,.str,_,_,he|_ :: _,_,.fn,_,_,he|_ :: _,_,.unit,_,_,he
 | _ :: _,_,.sl _,_,_,he|_ :: _,_,.ptr _,_,_,he|_ :: _,_,.arr _ _,_,_,he=>by simp[sG] at he
theorem A3f {l l':List Nat} (h:oH (l++l')=true):oH l=true∧oH l'=true∧∀ x ∈ l,x ∉ l':=by
 induction l with
 | nil=>exact⟨rfl,h,by simp⟩
 | cons x l ih=>
  obtain⟨h1,h2⟩:=dH (x:=x) h
  obtain⟨q1,q2,q3⟩:=ih h2
  refine⟨?_,q2,fun y hy=>?_⟩
  ·simp only[oH,Ad,Am]
   refine⟨?_,q1⟩
   cases hb:l.any (Ap x ·) with
   | false=>rfl
   | true=>
    obtain⟨y,hy,e⟩:=AB.1 hb
    have:=Av e
    subst this
    exact absurd (A9 _ hy) h1
  ·rcases Ai.1 hy with rfl|hy
   ·exact fun hy'=>h1 (A7 _ hy')
   ·exact q3 y hy
theorem cQ:∀ {rs:List ResultVar} {k:Nat} {t:Ty} {f:Fl},oH (rs.map AP3)=true→∀ e ∈ sG rs k t f,∀ e' ∈ sG rs k t f,e.slot=e'.slot→e=e'
 | r :: rs,k,.pair a b,f,hn,e,he,e',he',h=>by
  simp only[Ag] at hn
  obtain⟨h1,h2⟩:=dH hn
  simp only[sG,Ai] at he he'
  rcases he with rfl|he<;>rcases he' with rfl|he'
  ·rfl
  ·simp only at h
   exact absurd (mJ _ (Aw.2 ⟨e',he',h.symm⟩)) h1
  ·simp only at h
   exact absurd (mJ _ (Aw.2 ⟨e,he,h⟩)) h1
  ·exact cQ h2 e he e' he' h
 | [],_,_,_,_,_,he,_,_,_=>by simp[sG] at he
 | _ :: _,_,.int _,_,_,_,he,_,_,_|_ :: _,_,.bool,_,_,_,he,_,_,_|_ :: _,_,.str,_,_,_,he,_,_,_|_ :: _,_,.fn,_,_,_,he,_,_,_|_ :: _,_,.unit,_,_,_,he,_,_,_
 | _ :: _,_,.sl _,_,_,_,he,_,_,_|_ :: _,_,.ptr _,_,_,_,he,_,_,_|_ :: _,_,.arr _ _,_,_,_,he,_,_,_=>by simp[sG] at he
theorem nZ:∀ {ms:List Mode} {i:Nat},oH (kN ms)=true→∀ e ∈ sU ms i,∀ e' ∈ sU ms i,e.slot=e'.slot→e=e'
 | .io t _ fo s p :: ms,i,hn,e,he,e',he',h=>by
  simp only[kN] at hn
  obtain⟨h1,h2⟩:=dH hn
  simp only[sU,Ai] at he he'
  rcases he with rfl|he<;>rcases he' with rfl|he'
  ·rfl
  ·simp only at h
   exact absurd (by rw[← pE (i:=i+1)];exact Aw.2 ⟨e',he',h.symm⟩) h1
  ·simp only at h
   exact absurd (by rw[← pE (i:=i+1)];exact Aw.2 ⟨e,he,h⟩) h1
  ·exact nZ h2 e he e' he' h
 | .ro _ :: ms,i,hn,e,he,e',he',h=>by simp only[sU] at he he';exact nZ (ms:=ms) hn e he e' he' h
 | .mv _ _ :: ms,i,hn,e,he,e',he',h=>by simp only[sU] at he he';exact nZ (ms:=ms) hn e he e' he' h
 | [],_,_,_,he,_,_,_=>by simp[sU] at he
theorem A41 {rs:List ResultVar} {ms:List Mode} {t:Ty} {f:Fl} (h:oH (rs.map AP3++kN ms)=true):Apart (sG rs 0 t f++sU ms 0):=by
 obtain⟨h1,h2,h3⟩:=A3f h
 refine⟨fun e he e' he' hm=>?_,fun e he e' he' hm=>?_⟩
 ·rcases A2.1 he with he|he<;>rcases A2.1 he' with he'|he'
  ·exact Ab4 e he e' he' hm
  ·obtain⟨j,q,_⟩:=bJ e he;obtain⟨j',q',_⟩:=dJ e' he';omega
  ·obtain⟨j,q,_⟩:=bJ e' he';obtain⟨j',q',_⟩:=dJ e he;omega
  ·exact AB4 e he e' he' hm
 ·rcases A2.1 he with he|he<;>rcases A2.1 he' with he'|he'
  ·exact cQ h1 e he e' he' hm
  ·have q:=mJ _ (Aw.2 ⟨e,he,rfl⟩)
   have q':e'.slot ∈ kN ms:=by rw[← pE (i:=0)];exact Aw.2 ⟨e',he',rfl⟩
   rw[← hm] at q';exact absurd q' (h3 _ q)
  ·have q:=mJ _ (Aw.2 ⟨e',he',rfl⟩)
   have q':e.slot ∈ kN ms:=by rw[← pE (i:=0)];exact Aw.2 ⟨e,he,rfl⟩
   rw[hm] at q';exact absurd q' (h3 _ q)
  ·exact nZ h2 e he e' he' hm
end
end Go.Rf

end
section
namespace Go.Rf
set_option linter.unusedSectionVars false
variable [T:Laid]
section
variable {P:Program} {H:Nat→Option (List Value)} {N:Nat} {g g' G:zW} {V V' V0:Nat→Option Value} {w w' w2:World} {S S' S2:Nat→Prop} {β β' β2:Key→Option Nat} {a:Act} {o:Oper}
variable {E:Env} {gv:zW} {us:List Up} {σ:List SV}
def BF0 (tmps:Array Value):ResultVar→Sem Value
 | .tmp t=>pure (tmps.getD t undef)
 | .cell a t=>do loadVar t (← asAddr (tmps.getD a undef))
theorem A1i {fn:Func} {tmps:Array Value} {vs:List Value} (h:(fn.results.toList.mapM (BF0 tmps)).run P w=.ok vs w):(results fn tmps).run P w=.ok (AT4 vs) w:=by
 have e:(fn.results.mapM (BF0 tmps)).run P w=.ok vs.toArray w:=by
  rw[Array.mapM_eq_mapM_toList]
  simp[h]
 have e2:results fn tmps=(do let vs ← fn.results.mapM (BF0 tmps);pure (if h:vs.size=1 then vs[0] else .tuple vs)):=by
  unfold results
  congr
 rw[e2]
 simp only[Sem.run_bind,e,Result.andThen_ok]
 match vs with
 | []=>rfl
 | [v]=>rfl
 | _ :: _ :: _=>rfl
theorem RelS.dat (h:RelS H σ a w S β) {i:Nat} {d:Dat} (hd:σ.getD i .dead=.dat d):(at? (lH σ) i).sv=.dat d∧∃ c,zN S β H w [i] d.t d.f d.x c∧qD a i=some (zV d.t c):=by
 have hs:(at? (lH σ) i).sv=.dat d:=by
  rw[lU]
  rw[List.getD] at hd
  cases he:σ[i]? with
  | none=>rw[he] at hd;cases hd
  | some v=>rw[he] at hd;exact hd
 exact⟨hs,h.rel.dat hs⟩
theorem A0e {i:Nat} {v:Value} (h:qD a i=some v):a.tmps.getD i undef=v:=by
 simp only[qD] at h
 rw[Aj,h];rfl
def Mode.np:Mode→Bool
 | .io _ _ fo _ _=>fo.nopin
 | _=>true
def A9I:Nat→Fl→Fl
 | 0,f=>f
 | n+1,f=>A9I n f.r
theorem A3K {s t:Ty} {x:s.D} {y:t.D} (h:oV s t x=some y):∃ e:s=t,e▸x=y:=by
 unfold oV at h
 split at h
 ·rename_i e;exact⟨e,As h⟩
 ·cases h
theorem BA8 {r:ResultVar} {d:Dat} (h:RelS H σ a w S β) (hr:A0h E σ r=some d):
  ∃ c,zN S β H w (AP3 r :: A6w r) d.t d.f d.x c∧(BF0 a.tmps r).run E.P w=.ok (zV d.t c) w:=by
 cases r with
 | tmp s=>
  simp only[A0h] at hr
  split at hr
  ·rename_i d' hd
   simp only[Aa] at hr;subst hr
   obtain⟨_,c,hv,hV⟩:=h.dat hd
   exact⟨c,hv,by simp only[BF0];rw[A0e hV];rfl⟩
  ·cases hr
 | cell s ty=>
  simp only[A0h] at hr
  split at hr
  ·rename_i t x f hd
   split at hr
   ·rename_i hc
    simp only[Aa] at hr;subst hr
    simp only[Ad,A8,Am] at hc
    obtain⟨_,c,hv,hV⟩:=h.dat hd
    have hg:=uE hc.2
    have key:∃ b cs,c=[.pointer (some ⟨b,0,none⟩)]∧Blk w b cs∧cs.size=t.size∧zN S β H w [s,0] t f.e x cs.toList:=by
     rw[qF]
     simp only[zN] at hv
     have hv:=hv.2
     cases hf:f.base with
     | own e=>
      rw[hf] at hv
      obtain⟨b,cs,q1,q2,q3,q4,q5⟩:=hv
      exact⟨b,cs,q1,q3.blk,q4,q5⟩
     | gone=>exact absurd hf hg
     | sh=>
      rw[hf] at hv;simp only[Rd] at hv
      obtain⟨b,cs,q1,q2,q3,q4,q5⟩:=hv
      exact⟨b,cs,q1,q3,q4,yO.2 q5⟩
     | pr e1 e2=>
      rw[hf] at hv;simp only[Rd] at hv
      obtain⟨b,cs,q1,q2,q3,q4,q5⟩:=hv
      refine⟨b,cs,q1,q3,q4,?_⟩
      have hl:=tC q5
      cases t<;>simp only[Fl.e,zN,Fl.base,pN,Fl.pins]<;>exact⟨by simp,hl⟩
     | ar e1=>
      rw[hf] at hv;simp only[Rd] at hv
      obtain⟨b,cs,q1,q2,q3,q4,q5⟩:=hv
      refine⟨b,cs,q1,q3,q4,?_⟩
      have hl:=tC q5
      cases t<;>simp only[Fl.e,zN,Fl.base,pN,Fl.pins]<;>exact⟨by simp,hl⟩
     | pin k e=>exact absurd hf zL
    obtain⟨b,cs,rfl,hB,hz,hv'⟩:=key
    refine⟨cs.toList,hv',?_⟩
    have hcell:zD w t.size (.mem b 0)=some cs.toList:=by
     obtain⟨e,fz,hb⟩:=hB
     simp only[zD,hb]
     rw[Ar (by omega)]
     rw[show t.size=cs.toList.length by simp[hz],fG]
    simp only[BF0]
    rw[A0e hV]
    simp only[Sem.run_bind]
    rw[show (asAddr (zV (.ptr t) [.pointer (some ⟨b,0,none⟩)])).run E.P w=.ok ⟨b,0,none⟩ w from rfl]
    simp only[Result.andThen_ok]
    exact AT9 hc.1 hcell
   ·cases hr
  ·cases hr
theorem A0k {α:Type} {o:Option α} {l:List (Option α)} {ds:List α} (h:bL (o :: l)=some ds):∃ d ds',o=some d∧bL l=some ds'∧ds=d :: ds':=by
 cases o with
 | none=>simp[bL] at h
 | some d=>
  simp only[bL] at h
  obtain⟨ds',h1,h2⟩:=Ae.1 h
  exact⟨d,ds',rfl,h1,h2.symm⟩
theorem AT6 {d:Dat} {ds:List Dat} {t:Ty} {f:Fl} {x:t.D} (h:cB (d :: ds) t f=some x):
  ∃ (a b:Ty) (e:t=.pair a b) (y:(Ty.pair a b).D),e▸x=y∧Fl.le f.l d.f=true∧oV d.t a d.x=some y.1∧cB ds b f.r=some y.2:=by
 cases t with
 | pair a b=>
  simp only[cB] at h
  split at h
  ·rename_i hle
   obtain⟨y,h1,h2⟩:=Ac.1 h
   obtain⟨z,h3,h4⟩:=Ae.1 h2
   exact⟨a,b,rfl,x,rfl,hle,by rw[h1,← h4],by rw[h3,← h4]⟩
  ·cases h
 | _=>simp[cB] at h
theorem At0 {L:List Ent} (hT:∀ e ∈ L,∀ f0 (x:e.t.D) c,zN S β H w e.key e.t f0 x c→Fl.le e.f f0=true→zN S' β' H w [e.m] e.t e.f x c) (h:RelS H σ a w S β):
  ∀ {rs:List ResultVar} {ds es:List Dat} {k:Nat} {t:Ty} {f:Fl} {x:t.D},f.nopin=true→bL (rs.map (A0h E σ))=some ds→cB (ds++es) t f=some x→(∀ e ∈ sG rs k t f,e ∈ L) →
  ∃ crs,oY S' β' w rs.length k t f x crs∧(rs.mapM (BF0 a.tmps)).run E.P w=.ok (oA rs.length t crs) w∧cB es (A0J rs.length t) (A9I rs.length f)=some (A8T rs.length t x)
 | [],ds,es,k,t,f,x,hf,h1,h2,hL=>by
  simp only[Bo,bL,Aa] at h1
  subst h1
  exact⟨[],by simp[oY],by simp[oA],h2⟩
 | r :: rs,ds,es,k,t,f,x,hf,h1,h2,hL=>by
  obtain⟨d,ds',hr,h1',rfl⟩:=A0k h1
  obtain⟨ta,tb,rfl,y,rfl,hle,hc,hcol⟩:=AT6 (ds:=ds'++es) h2
  obtain⟨e,hx⟩:=A3K hc
  obtain⟨dt,dx,df⟩:=d
  simp only at e hx hle
  subst e
  simp only at hx
  obtain⟨c,hv,hrun⟩:=BA8 h hr
  simp only[sG,Ai,forall_eq_or_imp] at hL
  obtain⟨crs,q1,q2,q3⟩:=At0 hT h (k:=k+1) (A6O hf) h1' hcol hL.2
  have hv':=hT _ hL.1 df dx c hv hle
  refine⟨c :: crs,⟨gR (A00 hf) (hx▸hv'),q1⟩,?_,q3⟩
  simp only[List.mapM_cons,Sem.run_bind,hrun,Result.andThen_ok,q2,AS,oA]
  rfl
theorem AX1:∀ {p:List PS} {t:Ty} {f:Fl} {x:t.D} {d:Dat},BK5 p=true→yJ p t f x=some d→inB p t x
 | [],_,_,_,_,_,_=>by simp[inB]
 | .fst :: p,.pair a b,f,x,d,h,k=>by simp only[yJ] at k;simp only[inB];exact AX1 (p:=p) h k
 | .snd :: p,.pair a b,f,x,d,h,k=>by simp only[yJ] at k;simp only[inB];exact AX1 (p:=p) h k
 | .der :: p,.ptr t,f,x,d,h,k=>by simp only[yJ] at k;simp only[inB];exact AX1 (p:=p) h k
 | .idx _ :: _,_,_,_,_,h,_=>by simp[BK5] at h
 | .elm _ :: _,_,_,_,_,h,_=>by simp[BK5] at h
theorem AV5 {L:List Ent} {cs0:List (List Value)} (hT:∀ e ∈ L,∀ f0 (x:e.t.D) c,zN S β (fun i=>cs0[i]?) w e.key e.t f0 x c→Fl.le e.f f0=true→zN S' β' (fun i=>cs0[i]?) w [e.m] e.t e.f x c) (h:RelS (fun i=>cs0[i]?) σ a w S β):
  ∀ {ms:List Mode} {es:List Dat} {i:Nat} {cs:List (List Value)} {t:Ty} {f:Fl} {x:t.D},AY3 σ ms i=some es→cB es t f=some x→(∀ e ∈ sU ms i,e ∈ L)→cs.length=ms.length→(∀ j,cs[j]?=cs0[i+j]?) →
   (∀ m ∈ ms,m.np=true)→Ad4 S' β' w ms cs i t x
 | [],es,i,cs,t,f,x,h1,h2,hL,hl,hc,hm=>by
  match cs,hl with
  | [],_=>simp[Ad4]
 | .ro _ :: ms,es,i,cs,t,f,x,h1,h2,hL,hl,hc,hm=>by
  match cs,hl with
  | c :: cs,hl=>
   simp only[AY3] at h1;simp only[sU] at hL
   simp only[Ad4]
   exact AV5 hT h h1 h2 hL (by simpa using hl) (fun j=>by have:=hc (j+1);rw[show i+(j+1)=i+1+j by omega] at this;simpa using this) (fun m hm'=>hm m (by simp[hm']))
 | .mv _ _ :: ms,es,i,cs,t,f,x,h1,h2,hL,hl,hc,hm=>by
  match cs,hl with
  | c :: cs,hl=>
   simp only[AY3] at h1;simp only[sU] at hL
   simp only[Ad4]
   exact AV5 hT h h1 h2 hL (by simpa using hl) (fun j=>by have:=hc (j+1);rw[show i+(j+1)=i+1+j by omega] at this;simpa using this) (fun m hm'=>hm m (by simp[hm']))
 | .io tm fi fo s p :: ms,es,i,cs,t,f,x,h1,h2,hL,hl,hc,hm=>by
  match cs,hl with
  | c :: cs,hl=>
   simp only[AY3] at h1
   split at h1
   ·rename_i d hd
    split at h1
    ·rename_i e hg
     split at h1
     ·rename_i j f' hef
      split at h1
      ·rename_i hcond
       simp only[Ad,A8,Am] at hcond
       obtain⟨⟨⟨⟨hij,hle⟩,het⟩,hng⟩,hix⟩:=hcond
       have hij:=Av hij
       subst hij
       obtain⟨es',h1',rfl⟩:=Ae.1 h1
       obtain⟨ta,tb,rfl,y,rfl,_,hcast,hcol⟩:=AT6 h2
       obtain⟨q,hx⟩:=A3K hcast
       obtain⟨et,ex,ef⟩:=e
       simp only at het hef q hx
       subst q
       subst het
       subst hef
       simp only at hx
       obtain⟨hsd,_⟩:=h.dat hd
       have hnb:(Fl.pin i f').base≠.gone:=by
        simp only[Fl.base];exact uE hng
       obtain⟨cr,Lc,c2,_,_,_,_,_,hv⟩:=rR.at (h.rel.dat hsd) hg (AX1 hix hg) hnb
       have hpin:=vC hv i (by simp[Fl.pins])
       have hc2:c2=c:=by
        have e0:=hc 0
        simp only[A4,Nat.add_zero] at e0
        have hpin:cs0[i]?=some c2:=hpin
        rw[← e0] at hpin
        exact (As hpin).symm
       subst hc2
       simp only[sU,Ai,forall_eq_or_imp] at hL
       have hv':=hT _ hL.1 _ ex c2 hv hle
       have hfo:fo.nopin=true:=hm (.io et fi fo s p) (by simp)
       refine⟨rfl,gR hfo (hx▸hv'),?_⟩
       exact AV5 hT h h1' hcol hL.2 (by simpa using hl) (fun j=>by have:=hc (j+1);rw[show i+(j+1)=i+1+j by omega] at this;simpa using this) (fun m hm'=>hm m (by simp[hm']))
      ·cases h1
     ·cases h1
    ·cases h1
   ·cases h1
end
end Go.Rf

end
section
namespace Go.Rf
set_option linter.unusedSectionVars false
variable [T:Laid]
section
variable {P:Program} {H:Nat→Option (List Value)} {N:Nat} {g g' G:zW} {V V' V0:Nat→Option Value} {w w' w2:World} {S S' S2:Nat→Prop} {β β' β2:Key→Option Nat} {a:Act} {o:Oper}
variable {E:Env} {gv:zW} {us:List Up} {σ:List SV}
theorem Ak4 {cs0:List (List Value)}:∀ {ms:List Mode} {ds:List Dyn} {cs:List (List Value)} {i:Nat} {σ:List SV},sO ms ds i=some σ→sF S β w ms ds cs i→(∀ j,cs[j]?=cs0[i+j]?) →
  σ.length=ms.length∧cs.length=ms.length∧(yH ds cs).length=ms.length∧(∀ m ∈ ms,m.np=true) ∧
  ∀ j v,σ[j]?=some v→∃ (d:Dat) (c:List Value),v=.dat d∧(yH ds cs)[j]?=some (zV d.t c)∧zN S β (fun i=>cs0[i]?) w [i+j] d.t d.f d.x c
 | [],[],[],i,σ,h,_,_=>by
  simp only[sO,Aa] at h
  subst h
  simp[yH]
 | m :: ms,d :: ds,c :: cs,i,σ,h,ha,hc=>by
  have hc':∀ j,cs[j]?=cs0[i+1+j]?:=fun j=>by have:=hc (j+1);rw[show i+(j+1)=i+1+j by omega] at this;simpa using this
  have hc0:cs0[i]?=some c:=by have:=hc 0;simpa using this.symm
  have next:∀ {t:Ty} {fl:Fl} {x:t.D} {σ':List SV},d.t=t→oV d.t t d.x=some x→sO ms ds (i+1)=some σ'→σ=.dat ⟨t,x,fl⟩ :: σ'→sF S β w ms ds cs (i+1) →
    zN S β (fun i=>cs0[i]?) w [i] d.t fl d.x c→m.np=true →
    σ.length=(m :: ms).length∧(c :: cs).length=(m :: ms).length∧(yH (d :: ds) (c :: cs)).length=(m :: ms).length∧(∀ q ∈ m :: ms,q.np=true) ∧
    ∀ j v,σ[j]?=some v→∃ (d':Dat) (c':List Value),v=.dat d'∧(yH (d :: ds) (c :: cs))[j]?=some (zV d'.t c')∧zN S β (fun i=>cs0[i]?) w [i+j] d'.t d'.f d'.x c':=by
   intro t fl x σ' ht hx hi hσ ha' hv hm
   subst ht
   unfold oV at hx
   rw[dif_pos rfl] at hx
   have hx:=As hx
   simp only at hx
   obtain⟨q1,q2,q3,q4,q5⟩:=Ak4 hi ha' hc'
   subst hσ
   refine⟨by simp[q1],by simp[q2],by simp[yH,q3],fun m' hm'=>?_,fun j v hj=>?_⟩
   ·rcases Ai.1 hm' with rfl|hm'
    ·exact hm
    ·exact q4 m' hm'
   ·cases j with
    | zero=>
     simp only[A4,Aa] at hj
     subst hj
     exact⟨_,c,rfl,by simp[yH],hx▸hv⟩
    | succ j=>
     obtain⟨d',c',e1,e2,e3⟩:=q5 j v (by simpa using hj)
     exact⟨d',c',e1,by simpa[yH] using e2,by rw[show i+(j+1)=i+1+j by omega];exact e3⟩
  cases m with
  | ro t=>
   simp only[sO] at h
   obtain⟨x,hx,h⟩:=Ac.1 h
   obtain⟨σ',hi,hσ⟩:=Ae.1 h
   simp only[sF] at ha
   exact next ha.1 hx hi hσ.symm ha.2.2 (yO.2 ha.2.1) rfl
  | mv t f=>
   simp only[sO] at h
   obtain⟨x,hx,h⟩:=Ac.1 h
   obtain⟨σ',hi,hσ⟩:=Ae.1 h
   simp only[sF] at ha
   exact next ha.1 hx hi hσ.symm ha.2.2.2 (gR ha.2.1 ha.2.2.1) rfl
  | io t f fo s p=>
   simp only[sO] at h
   obtain⟨x,hx,h⟩:=Ac.1 h
   obtain⟨σ',hi,hσ⟩:=Ae.1 h
   simp only[sF] at ha
   refine next ha.1 hx hi hσ.symm ha.2.2.2 ?_ ha.2.1.2
   have hv:zN S β (fun i=>cs0[i]?) w [i] d.t f d.x c:=gR ha.2.1.1 ha.2.2.1
   have hp:pN (fun i=>cs0[i]?) (.pin i f) c:=fun k hk=>by
    simp only[Fl.pins,Aj1 ha.2.1.1,Ax] at hk
    subst hk;exact hc0
   exact mI (f:=.pin i f) hp hv
 | [],[],_ :: _,_,_,_,ha,_=>by simp[sF] at ha
 | [],_ :: _,_,_,_,h,_,_=>by simp[sO] at h
 | .ro _ :: _,[],_,_,_,h,_,_=>by simp[sO] at h
 | .mv _ _ :: _,[],_,_,_,h,_,_=>by simp[sO] at h
 | .io _ _ _ _ _ :: _,[],_,_,_,h,_,_=>by simp[sO] at h
 | .ro _ :: _,_ :: _,[],_,_,_,ha,_=>by simp[sF] at ha
 | .mv _ _ :: _,_ :: _,[],_,_,_,ha,_=>by simp[sF] at ha
 | .io _ _ _ _ _ :: _,_ :: _,[],_,_,_,ha,_=>by simp[sF] at ha
theorem Ay8 {f:FuncId} {fn:Func} {x:(E.cfg f).rt.D} {cs:List (List Value)} (h:RelS (fun i=>cs[i]?) σ a w S β) (hx:finish E f fn σ=some x) (hl:cs.length=(E.cfg f).modes.length)
  (hm:∀ m ∈ (E.cfg f).modes,m.np=true):∃ v,(results fn a.tmps).run E.P w=.ok v w∧Ret (E.cfg f) x cs w S β v w:=by
 unfold finish at hx
 split at hx
 ·rename_i hc
  simp only[Ad] at hc
  obtain⟨⟨h1,h2⟩,h3⟩:=hc
  have h2:=Av h2
  split at hx
  ·rename_i ds es hds hes
   obtain⟨sane,step,tr⟩:=BB7 (H:=fun i=>cs[i]?) (A41 (t:=(E.cfg f).rt) (f:=(E.cfg f).rf) h1) h.rel.sane
   obtain⟨crs,q1,q2,q3⟩:=At0 (es:=es) (k:=0) tr h h3 hds hx (fun e he=>A9 _ he)
   rw[show fn.results.toList.length=(E.cfg f).nres by simpa using h2] at q1 q2 q3
   refine⟨_,A1i q2,_,_,crs,sane,step,q1,rfl,?_⟩
   exact AV5 tr h hes q3 (fun e he=>A7 _ he) hl (fun j=>by simp) hm
  ·cases hx
 ·cases hx
def AO0 (P:Program):Prop:=∀ (f:FuncId) (fn:Func),P.funcs[f]?=some fn→(fn.name == "runtime.NumGoroutine")=false
theorem BE3 {R:Run E} {L:nW} (hR:AG7 E R) (hD:A0B E R) (hL:A02 E L) (hN:AO0 E.P) {f:FuncId} {ds:List Dyn} {x:(E.cfg f).rt.D} (h:zF E R L f ds=some x):A9R E f ds x:=by
 unfold zF at h
 split at h
 ·rename_i fn hfn
  split at h
  ·rename_i c σ hb hi
   split at h
   ·rename_i hcond
    simp only[Ad] at hcond
    have hlen:=Nat.le_of_ble_eq_true hcond.1
    intro w S β cs hs ha
    obtain⟨q1,q2,q3,q4,q5⟩:=Ak4 (cs0:=cs) hi ha (fun j=>by simp)
    refine .inl ⟨fn,hfn,hN f fn hfn,by rw[hb];rfl,calls_of_wp hfn hb ?_⟩
    have hsz:((yH ds cs).toArray++AX (fn.ntmps - (yH ds cs).toArray.size) undef).size=fn.ntmps:=by
     simp only[Array.size_append,List.size_toArray,Array.size_replicate];omega
    have hrel:RelS (fun i=>cs[i]?) (pad fn.ntmps σ) { tmps:=(yH ds cs).toArray++AX (fn.ntmps - (yH ds cs).toArray.size) undef,defers:=[] } w S β:=by
     refine⟨by rw[hsz];simp[pad];omega,hs,fun i=>?_⟩
     rw[lU]
     by_cases hi:i < σ.length
     ·have hg:(pad fn.ntmps σ)[i]?=some σ[i]:=by
       unfold pad
       rw[Ba hi,Ab hi]
      rw[hg]
      obtain⟨d,cc,e1,e2,e3⟩:=q5 i σ[i] (Ab hi)
      simp only[e1]
      refine⟨cc,by simpa using e3,?_⟩
      have hi':i < (yH ds cs).length:=by omega
      simp only[qD]
      rw[Array.getElem?_append_left (by simpa using hi')]
      simpa using e2
     ·have hg:∀ v,(pad fn.ntmps σ)[i]?=some v→v=.dead:=fun v hv=>by
       unfold pad at hv
       rw[A' (by omega),List.getElem?_replicate] at hv
       split at hv
       ·exact (As hv).symm
       ·cases hv
      cases hv:(pad fn.ntmps σ)[i]? with
      | none=>trivial
      | some v=>rw[hg v hv];trivial
    refine pG hR hD hL (by rw[show ({ tmps:=(yH ds cs).toArray++AX (fn.ntmps - (yH ds cs).toArray.size) undef,defers:=[] }:Act).tmps.size=fn.ntmps from hsz];exact hcond.2) hrel h ?_
    intro o a' w' S' β' ho e1 e2 h' hst
    have fin:finish E f fn o.σ=some x→bodyPost E.P fn (fun e w'=>match e,w' with|.returned v,w'=>Ret (E.cfg f) x cs w S β v w'|_,_=>False) .normal a' w':=fun hx=>by
     obtain⟨v,r1,S2,β2,crs,r2,r3,r4,r5,r6⟩:=Ay8 h' hx q2 q4
     exact⟨e2,v,r1,S2,β2,crs,r2,hst.trans r3,r4,r5,r6⟩
    obtain⟨e,σ'⟩:=o
    cases e with
    | nm=>exact fin ho
    | ret=>exact fin ho
    | ex id=>simp[BP6] at ho
   ·cases h
  ·cases h
 ·cases h
theorem A8t {R:Run E} {L:nW} (hR:AG7 E R) (hD:A0B E R) (ih:AY1 E L):AY1 E (Af6 E R L):=by
 intro H f b σ o a w S β Q hd h hrel hQ
 simp only[Af6] at h
 refine AS9.round (pG hR hD ih.ok hd hrel h fun o' a' w' S' β' ho e1 e2 h' hst=>?_)
 obtain⟨e,σ'⟩:=o'
 cases e with
 | nm=>
  simp only at ho
  exact ih H f b _ o a' w' S' β' Q (by rw[e1];exact hd) ho h'.killS fun a'' w'' S'' β'' f1 f2 h'' hst'=>hQ a'' w'' S'' β'' (f1.trans e1) (f2.trans e2) h'' (hst.trans hst')
 | ex id=>
  simp only[Aa] at ho;subst ho
  exact hQ a' w' S' β' e1 e2 h' hst
 | ret=>
  simp only[Aa] at ho;subst ho
  exact hQ a' w' S' β' e1 e2 h' hst
theorem A0s {X:(f:FuncId)→Option (List Dyn→Option (E.cfg f).rt.D)} (hX:∀ f h,X f=some h→∀ ds x,h ds=some x→A9R E f ds x) (hm:E.P.follows .mixedOrders=true) (hN:AO0 E.P):
  ∀ k,Ag0 E (vR E X k).1∧AY1 E (vR E X k).2
 | 0=>⟨fun f ds x h=>by simp[vR] at h,fun H f b σ o a w S β Q _ h _ _=>by simp[vR] at h⟩
 | k+1=>by
  obtain⟨h1,h2⟩:=A0s hX hm hN k
  have hR:=A8a h1
  have hD:A0B E (vR E X k).1:=A9s hR hm
  refine⟨fun f ds x h=>?_,A8t hR hD h2⟩
  simp only[vR,AH3] at h
  split at h
  ·rename_i h' hx;exact hX f h' hx ds x h
  ·exact BE3 hR hD h2.ok hN h
end
end Go.Rf

end
section
namespace Go.Rf
set_option linter.unusedSectionVars false
variable [T:Laid]
section
variable {E:Env} {ρ:Type}
def RLe (R R':Run E):Prop:=∀ f ds x,R f ds=some x→R' f ds=some x
def LLe (L L':nW):Prop:=∀ f b σ o,L f b σ=some o→L' f b σ=some o
theorem A4C {R:Run E} {g:zW} {o:Oper} {f:FuncId} {xs:List Operand} {us:List Up} (h:AD1 E R g o f xs some=some us):
  ∃ ds x,R f ds=some x∧∀ R':Run E,R' f ds=some x→AD1 E R' g o f xs some=some us:=by
 unfold AD1 at h
 split at h
 ·rename_i p hp
  split at h
  ·rename_i ds lent hd
   split at h
   ·rename_i hc
    obtain⟨x,hx,hk⟩:=Ac.1 h
    refine⟨ds,x,hx,fun R' h'=>?_⟩
    unfold AD1
    rw[hp];simp only[hd]
    rw[Ar hc,h']
    exact hk
   ·cases h
  ·cases h
 ·cases h
theorem A7I {R:Run E} {g:zW} {o:Oper} {f:FuncId} {xs:List Operand} {us:List Up} (h:AV3 E R g o f xs some=some us):
  ∃ ds x,R f ds=some x∧∀ R':Run E,R' f ds=some x→AV3 E R' g o f xs some=some us:=by
 unfold AV3 at h
 rw[iY] at h
 obtain⟨us0,h0,h1⟩:=Ac.1 h
 obtain⟨ds,x,hx,hR⟩:=A4C h0
 refine⟨ds,x,hx,fun R' h'=>?_⟩
 unfold AV3
 rw[iY,hR R' h']
 exact h1
theorem A4K {R:Run E} {g:zW} {o:Oper} {v:FnVal} {xs:List Operand} {ts:List TypeId} {us:List Up} (h:cX E R g o v xs ts some=some us):
  ∃ f ds x,R f ds=some x∧∀ R':Run E,R' f ds=some x→cX E R' g o v xs ts some=some us:=by
 unfold cX at h
 split at h
 ·rename_i ds τ h1 h2
  split at h
  ·rename_i hc
   obtain⟨y,hy,hk⟩:=Ac.1 h
   unfold A6d at hy
   split at hy
   ·cases hy
   ·rename_i f cs
    split at hy
    ·rename_i hrt
     split at hy
     ·rename_i hcond
      obtain⟨x,hx,e⟩:=Ae.1 hy
      refine⟨f,_,x,hx,fun R' h'=>?_⟩
      unfold cX
      rw[h1,h2];simp only
      rw[Ar hc]
      unfold A6d
      simp only
      rw[dif_pos hrt,Ar hcond,h']
      simp only[AW,e]
      exact hk
     ·cases hy
    ·cases hy
  ·cases h
 ·cases h
theorem A7C {R:Run E} {mv:Bool} {g:zW} {o:Oper} {us:List Up} (h:opK E R mv g o some=some us):
  (∀ R':Run E,opK E R' mv g o some=some us)∨∃ f ds x,R f ds=some x∧∀ R':Run E,R' f ds=some x→opK E R' mv g o some=some us:=by
 unfold opK at h
 split at h
 case h_22=>
  rename_i c hop
  split at h
  ·rename_i b hcal
   left;intro R';unfold opK;rw[hop];simp only;rw[hcal];exact h
  ·rename_i f hcal
   obtain⟨ds,x,h1,h2⟩:=A7I h
   right
   refine⟨f,ds,x,h1,fun R' h'=>?_⟩
   unfold opK;rw[hop];simp only;rw[hcal];exact h2 R' h'
  ·rename_i s hcal
   split at h
   ·rename_i v f hd
    obtain⟨f',ds,x,h1,h2⟩:=A4K h
    right
    refine⟨f',ds,x,h1,fun R' h'=>?_⟩
    unfold opK;rw[hop];simp only;rw[hcal];simp only;rw[hd];exact h2 R' h'
   ·cases h
  ·cases h
 all_goals first
  | (left;intro R';rename_i hop;unfold opK;rw[hop];exact h)
  | cases h
structure Tower (E:Env) where
 R:Nat→Run E
 L:Nat→nW
 Rw:Run E
 Lw:nW
 upR:∀ k,RLe (R k) (R (k+1))
 upL:∀ k,LLe (L k) (L (k+1))
 limR:∀ f ds x,Rw f ds=some x↔∃ k,R k f ds=some x
 limL:∀ f b σ o,Lw f b σ=some o↔∃ k,L k f b σ=some o
theorem RLe.trans' {R R' R'':Run E} (h:RLe R R') (h':RLe R' R''):RLe R R'':=fun f ds x k=>h' f ds x (h f ds x k)
theorem Tower.leR (T:Tower E) {j k:Nat} (h:j≤k):RLe (T.R j) (T.R k):=by
 induction k with
 | zero=>
  have:j=0:=by omega
  subst this;exact fun _ _ _ h=>h
 | succ k ih=>
  rcases A3 k j with h'|h'
  ·have:j=k+1:=by omega
   subst this;exact fun _ _ _ h=>h
  ·exact (ih h').trans' (T.upR k)
theorem Tower.leL (T:Tower E) {j k:Nat} (h:j≤k):LLe (T.L j) (T.L k):=by
 induction k with
 | zero=>
  have:j=0:=by omega
  subst this;exact fun _ _ _ _ h=>h
 | succ k ih=>
  rcases A3 k j with h'|h'
  ·have:j=k+1:=by omega
   subst this;exact fun _ _ _ _ h=>h
  ·exact fun f b σ o q=>T.upL k f b σ o (ih h' f b σ o q)
theorem A26 {R R':Run E} (hle:RLe R R') {mv:Bool} {g:zW} {o:Oper} {us:List Up} (h:opK E R mv g o some=some us):opK E R' mv g o some=some us:=by
 rcases A7C h with h'|⟨f,ds,x,h1,h2⟩
 ·exact h' R'
 ·exact h2 R' (hle f ds x h1)
theorem bM {R R':Run E} (hle:RLe R R') {mv:List Nat} {all:List Oper} {draw:Bool} {κ κ':List Slot→Option ρ} (hκ:∀ l r,κ l=some r→κ' l=some r):∀ {os:List Oper} {i:Nat} {l:List Slot} {acc:List Rec} {r:ρ},
  jH E R mv all draw os i l acc κ=some r→jH E R' mv all draw os i l acc κ'=some r
 | [],i,l,acc,r,h=>by
  unfold jH at h ⊢
  split at h
  ·rename_i hd
   rw[Ar hd]
   split at h
   ·rename_i hc;rw[Ar hc];exact hκ _ _ h
   ·cases h
  ·rename_i hd;rw[Aq hd];exact hκ _ _ h
 | o :: os,i,l,acc,r,h=>by
  have hgo:∀ {gs:List Nat} {l:List Slot},opK E R (mv.any (Ap i ·)) (tX l (Ad7 o l)) o (fun us=>jH E R mv all draw os (i+1) (oQ l us) (acc++[AJ9 (mv.any (Ap i ·)) gs l o us]) κ)=some r →
    opK E R' (mv.any (Ap i ·)) (tX l (Ad7 o l)) o (fun us=>jH E R' mv all draw os (i+1) (oQ l us) (acc++[AJ9 (mv.any (Ap i ·)) gs l o us]) κ')=some r:=fun {gs l} h=>by
   rw[dX] at h ⊢
   obtain⟨us,h1,h2⟩:=Ac.1 h
   rw[A26 hle h1]
   exact bM hle hκ h2
  have hskip:∀ {gs:List Nat} {l:List Slot},(match o.dst with
    | some d=>jH E R mv all draw os (i+1) (upL l (.put d .und)) (acc++[⟨gs,[d],[],[d],[],[d]⟩]) κ
    | none=>jH E R mv all draw os (i+1) l (acc++[⟨gs,[],[],[],[],[]⟩]) κ)=some r →
    (match o.dst with
    | some d=>jH E R' mv all draw os (i+1) (upL l (.put d .und)) (acc++[⟨gs,[d],[],[d],[],[d]⟩]) κ'
    | none=>jH E R' mv all draw os (i+1) l (acc++[⟨gs,[],[],[],[],[]⟩]) κ')=some r:=fun {gs l} h=>by
   cases hd:o.dst with
   | some d=>rw[hd] at h;exact bM hle hκ h
   | none=>rw[hd] at h;exact bM hle hκ h
  unfold jH at h ⊢
  simp only at h ⊢
  split at h
  ·exact hgo h
  ·rename_i j want hg
   split at h
   ·cases h
   ·rename_i g hgd
    split at h
    ·rename_i t hv
     cases t with
     | true=>
      simp only[AD] at h ⊢
      split at h
      ·rename_i hw;rw[Ar hw];exact hgo h
      ·rename_i hw;rw[Aq hw];exact hskip h
     | false=>
      simp only[A6] at h ⊢
      split at h
      ·rename_i hw;rw[Ar hw];exact hskip h
      ·rename_i hw;rw[Aq hw];exact hgo h
    ·exact hskip h
    ·cases h
theorem AW6 (T:Tower E) {mv:List Nat} {all:List Oper} {draw:Bool} {κ:Nat→List Slot→Option ρ} {κw:List Slot→Option ρ} (hup:∀ j k,j≤k→∀ l r,κ j l=some r→κ k l=some r) (hκ:∀ l r,κw l=some r→∃ k,κ k l=some r):
  ∀ {os:List Oper} {i:Nat} {l:List Slot} {acc:List Rec} {r:ρ},jH E T.Rw mv all draw os i l acc κw=some r→∃ k,jH E (T.R k) mv all draw os i l acc (κ k)=some r
 | [],i,l,acc,r,h=>by
  unfold jH at h ⊢
  split at h
  ·rename_i hd
   simp only[hd,AI]
   split at h
   ·rename_i hc;simp only[hc,AI];exact hκ _ _ h
   ·cases h
  ·rename_i hd
   simp only[hd];exact hκ _ _ h
 | o :: os,i,l,acc,r,h=>by
  have hgo:∀ {gs:List Nat} {l:List Slot},opK E T.Rw (mv.any (Ap i ·)) (tX l (Ad7 o l)) o (fun us=>jH E T.Rw mv all draw os (i+1) (oQ l us) (acc++[AJ9 (mv.any (Ap i ·)) gs l o us]) κw)=some r →
    ∃ k,opK E (T.R k) (mv.any (Ap i ·)) (tX l (Ad7 o l)) o (fun us=>jH E (T.R k) mv all draw os (i+1) (oQ l us) (acc++[AJ9 (mv.any (Ap i ·)) gs l o us]) (κ k))=some r:=fun {gs l} h=>by
   rw[dX] at h
   obtain⟨us,h1,h2⟩:=Ac.1 h
   obtain⟨k2,h2⟩:=AW6 T hup hκ h2
   have h1':∃ k1,opK E (T.R k1) (mv.any (Ap i ·)) (tX l (Ad7 o l)) o some=some us:=by
    rcases A7C h1 with h'|⟨f,ds,x,q1,q2⟩
    ·exact⟨0,h' _⟩
    ·obtain⟨k1,q1⟩:=(T.limR f ds x).1 q1
     exact⟨k1,q2 _ q1⟩
   obtain⟨k1,h1'⟩:=h1'
   refine⟨max k1 k2,?_⟩
   rw[dX,A26 (T.leR (AJ k1 k2)) h1']
   exact bM (T.leR (A5 k1 k2)) (hup _ _ (A5 k1 k2)) h2
  have hskip:∀ {gs:List Nat} {l:List Slot},(match o.dst with
    | some d=>jH E T.Rw mv all draw os (i+1) (upL l (.put d .und)) (acc++[⟨gs,[d],[],[d],[],[d]⟩]) κw
    | none=>jH E T.Rw mv all draw os (i+1) l (acc++[⟨gs,[],[],[],[],[]⟩]) κw)=some r →
    ∃ k,(match o.dst with
    | some d=>jH E (T.R k) mv all draw os (i+1) (upL l (.put d .und)) (acc++[⟨gs,[d],[],[d],[],[d]⟩]) (κ k)
    | none=>jH E (T.R k) mv all draw os (i+1) l (acc++[⟨gs,[],[],[],[],[]⟩]) (κ k))=some r:=fun {gs l} h=>by
   cases hd:o.dst with
   | some d=>rw[hd] at h;exact AW6 T hup hκ h
   | none=>rw[hd] at h;exact AW6 T hup hκ h
  unfold jH at h ⊢
  simp only at h ⊢
  split at h
  ·exact hgo h
  ·rename_i j want hg
   split at h
   ·cases h
   ·rename_i g hgd
    split at h
    ·rename_i t hv
     cases t with
     | true=>
      simp only[AD] at h ⊢
      split at h
      ·rename_i hw;simp only[hw,AI];exact hgo h
      ·rename_i hw;simp only[hw];exact hskip h
     | false=>
      simp only[A6] at h ⊢
      split at h
      ·rename_i hw;simp only[hw,AI];exact hskip h
      ·rename_i hw;simp only[hw];exact hgo h
    ·exact hskip h
    ·cases h
end
end Go.Rf

end
section
namespace Go.Rf
set_option linter.unusedSectionVars false
variable [T:Laid]
section
variable {E:Env} {ρ:Type}
theorem Aw1 {k k':List SV→(Out→Option ρ)→Option ρ} {κ κ':Out→Option ρ} (hk:∀ σ r,k σ κ=some r→k' σ κ'=some r) (hκ:∀ o r,κ o=some r→κ' o=some r):∀ o r,BF2 k κ o=some r→BF2 k' κ' o=some r:=by
 intro o r h
 obtain⟨e,σ⟩:=o
 cases e with
 | nm=>exact hk σ r h
 | ex id=>exact hκ _ r h
 | ret=>exact hκ _ r h
theorem AZ1 {id:Nat} {κ κ':Out→Option ρ} (hκ:∀ o r,κ o=some r→κ' o=some r):∀ o r,AL5 id κ o=some r→AL5 id κ' o=some r:=by
 intro o r h
 obtain⟨e,σ⟩:=o
 cases e with
 | ex j=>
  simp only[AL5] at h ⊢
  split at h
  ·rename_i c;rw[Ar c];exact hκ _ r h
  ·rename_i c;rw[Aq c];exact hκ _ r h
 | nm=>exact hκ _ r h
 | ret=>exact hκ _ r h
theorem qA {R R':Run E} {L L':nW} {f:FuncId} (hR:RLe R R') (hL:LLe L L'):∀ {c:Code} {σ:List SV} {κ κ':Out→Option ρ} {r:ρ},(∀ o r,κ o=some r→κ' o=some r)→evB E R L f c σ κ=some r→evB E R' L' f c σ κ'=some r
 | .skip,σ,κ,κ',r,hκ,h=>hκ _ r h
 | .exit _,σ,κ,κ',r,hκ,h=>hκ _ r h
 | .ret,σ,κ,κ',r,hκ,h=>hκ _ r h
 | .region id ops draw,σ,κ,κ',r,hκ,h=>by
  simp only[evB,AY9] at h ⊢
  exact bM hR (fun l r=>hκ _ r) h
 | .seq a b,σ,κ,κ',r,hκ,h=>by
  simp only[evB] at h ⊢
  exact qA hR hL (Aw1 (fun σ r=>qA hR hL hκ) hκ) h
 | .block id b,σ,κ,κ',r,hκ,h=>by
  simp only[evB] at h ⊢
  exact qA hR hL (AZ1 hκ) h
 | .loop b,σ,κ,κ',r,hκ,h=>by
  simp only[evB,Al9] at h ⊢
  obtain⟨o,h1,h2⟩:=Ac.1 h
  exact Ac.2 ⟨o,hL _ _ _ _ h1,hκ _ r h2⟩
 | .cond c a b,σ,κ,κ',r,hκ,h=>by
  simp only[evB] at h ⊢
  split at h
  ·split at h
   ·rename_i x hx
    cases x with
    | true=>simp only[AD] at h ⊢;exact qA hR hL hκ h
    | false=>simp only[A6] at h ⊢;exact qA hR hL hκ h
   ·split at h
    ·rename_i hu
     obtain⟨h1,h2⟩:=AQ4 h
     rw[Ar hu]
     exact A3M (qA hR hL hκ h1) (qA hR hL hκ h2)
    ·cases h
   ·cases h
  ·rename_i x
   cases x with
   | true=>simp only[AD] at h ⊢;exact qA hR hL hκ h
   | false=>simp only[A6] at h ⊢;exact qA hR hL hκ h
  ·cases h
 | .rangeFunc _ _ _ _,_,_,_,_,_,h|.scope _,_,_,_,_,_,h|.label _,_,_,_,_,_,h|.goto _,_,_,_,_,_,h|.refuse _,_,_,_,_,_,h=>by simp[evB] at h
theorem iZ (T:Tower E) {f:FuncId}:∀ {c:Code} {σ:List SV} {κ:Nat→Out→Option ρ} {κw:Out→Option ρ} {r:ρ},(∀ j k,j≤k→∀ o r,κ j o=some r→κ k o=some r)→(∀ o r,κw o=some r→∃ k,κ k o=some r) →
  evB E T.Rw T.Lw f c σ κw=some r→∃ k,evB E (T.R k) (T.L k) f c σ (κ k)=some r
 | .skip,σ,κ,κw,r,hup,hκ,h=>hκ _ r h
 | .exit _,σ,κ,κw,r,hup,hκ,h=>hκ _ r h
 | .ret,σ,κ,κw,r,hup,hκ,h=>hκ _ r h
 | .region id ops draw,σ,κ,κw,r,hup,hκ,h=>by
  simp only[evB,AY9] at h ⊢
  exact AW6 T (κ:=fun k l=>κ k ⟨.nm,AG0 (E.cfg f).keep l l 0⟩) (fun j k hjk l r=>hup j k hjk _ r) (fun l r=>hκ _ r) h
 | .seq a b,σ,κ,κw,r,hup,hκ,h=>by
  simp only[evB] at h ⊢
  refine iZ T (κ:=fun k=>BF2 (evB E (T.R k) (T.L k) f b) (κ k)) (fun j k hjk=>Aw1 (fun σ r=>qA (T.leR hjk) (T.leL hjk) (hup j k hjk)) (hup j k hjk)) (fun o r ho=>?_) h
  obtain⟨e,σ'⟩:=o
  cases e with
  | nm=>exact iZ T hup hκ ho
  | ex id=>exact hκ _ r ho
  | ret=>exact hκ _ r ho
 | .block id b,σ,κ,κw,r,hup,hκ,h=>by
  simp only[evB] at h ⊢
  refine iZ T (κ:=fun k=>AL5 id (κ k)) (fun j k hjk=>AZ1 (hup j k hjk)) (fun o r ho=>?_) h
  obtain⟨e,σ'⟩:=o
  cases e with
  | ex j=>
   simp only[AL5] at ho ⊢
   split at ho
   ·rename_i c;simp only[c,AI];exact hκ _ r ho
   ·rename_i c;simp only[c];exact hκ _ r ho
  | nm=>exact hκ _ r ho
  | ret=>exact hκ _ r ho
 | .loop b,σ,κ,κw,r,hup,hκ,h=>by
  simp only[evB,Al9] at h ⊢
  obtain⟨o,h1,h2⟩:=Ac.1 h
  obtain⟨k1,h1⟩:=(T.limL f b _ o).1 h1
  obtain⟨k2,h2⟩:=hκ _ _ h2
  exact⟨max k1 k2,Ac.2 ⟨o,T.leL (AJ _ _) _ _ _ _ h1,hup _ _ (A5 _ _) _ _ h2⟩⟩
 | .cond c a b,σ,κ,κw,r,hup,hκ,h=>by
  simp only[evB] at h ⊢
  split at h
  ·split at h
   ·rename_i x hx
    cases x with
    | true=>simp only[AD] at h ⊢;exact iZ T hup hκ h
    | false=>simp only[A6] at h ⊢;exact iZ T hup hκ h
   ·split at h
    ·rename_i hu
     obtain⟨h1,h2⟩:=AQ4 h
     obtain⟨k1,h1⟩:=iZ T hup hκ h1
     obtain⟨k2,h2⟩:=iZ T hup hκ h2
     refine⟨max k1 k2,?_⟩
     simp only[hu,AI]
     exact A3M (qA (T.leR (AJ _ _)) (T.leL (AJ _ _)) (hup _ _ (AJ _ _)) h1) (qA (T.leR (A5 _ _)) (T.leL (A5 _ _)) (hup _ _ (A5 _ _)) h2)
    ·cases h
   ·cases h
  ·rename_i x
   cases x with
   | true=>simp only[AD] at h ⊢;exact iZ T hup hκ h
   | false=>simp only[A6] at h ⊢;exact iZ T hup hκ h
  ·cases h
 | .rangeFunc _ _ _ _,_,_,_,_,_,_,h|.scope _,_,_,_,_,_,_,h|.label _,_,_,_,_,_,_,h|.goto _,_,_,_,_,_,_,h|.refuse _,_,_,_,_,_,_,h=>by simp[evB] at h
theorem Al5 {R R':Run E} {L L':nW} (hR:RLe R R') (hL:LLe L L') {f:FuncId} {ds:List Dyn} {x:(E.cfg f).rt.D} (h:zF E R L f ds=some x):zF E R' L' f ds=some x:=by
 unfold zF at h ⊢
 split at h
 ·split at h
  ·split at h
   ·rename_i hc;rw[Ar hc];exact qA hR hL (fun _ _ h=>h) h
   ·cases h
  ·cases h
 ·cases h
theorem A7O (T:Tower E) {f:FuncId} {ds:List Dyn} {x:(E.cfg f).rt.D} (h:zF E T.Rw T.Lw f ds=some x):∃ k,zF E (T.R k) (T.L k) f ds=some x:=by
 unfold zF at h ⊢
 split at h
 ·split at h
  ·split at h
   ·rename_i hc
    simp only[hc,AI]
    exact iZ T (κ:=fun _=>_) (fun _ _ _ _ _ h=>h) (fun _ _ h=>⟨0,h⟩) h
   ·cases h
  ·cases h
 ·cases h
def A8h (E:Env) (L:nW) (f:FuncId) (b:Code):Out→Option Out
 | ⟨.nm,σ⟩=>L f b (killS (A2m (E.cfg f) b) σ)
 | o=>some o
theorem AM2 {R:Run E} {L:nW} {f:FuncId} {b:Code} {σ:List SV}:Af6 E R L f b σ=evB E R L f b σ (A8h E L f b):=by
 unfold Af6
 congr
theorem AN7 {L L':nW} (hL:LLe L L') {f:FuncId} {b:Code}:∀ o r,A8h E L f b o=some r→A8h E L' f b o=some r:=by
 intro o r h
 obtain⟨e,σ⟩:=o
 cases e with
 | nm=>exact hL _ _ _ _ h
 | ex id=>exact h
 | ret=>exact h
variable (X:(f:FuncId)→Option (List Dyn→Option (E.cfg f).rt.D))
theorem bF:∀ k,RLe (vR E X k).1 (vR E X (k+1)).1∧LLe (vR E X k).2 (vR E X (k+1)).2
 | 0=>⟨fun _ _ _ h=>by simp[vR] at h,fun _ _ _ _ h=>by simp[vR] at h⟩
 | k+1=>by
  obtain⟨h1,h2⟩:=bF k
  refine⟨fun f ds x h=>?_,fun f b σ o h=>?_⟩
  ·show AH3 E X (vR E X (k+1)).1 (vR E X (k+1)).2 f ds=some x
   have h:AH3 E X (vR E X k).1 (vR E X k).2 f ds=some x:=h
   unfold AH3 at h ⊢
   split at h
   ·exact h
   ·exact Al5 h1 h2 h
  ·show Af6 E (vR E X (k+1)).1 (vR E X (k+1)).2 f b σ=some o
   have h:Af6 E (vR E X k).1 (vR E X k).2 f b σ=some o:=h
   rw[AM2] at h ⊢
   exact qA h1 h2 (AN7 h2) h
open Classical in
noncomputable def sup {α:Type} (s:Nat→Option α):Option α:=if h:∃ x k,s k=some x then some h.choose else none
theorem A5B {α:Type} {s:Nat→Option α} (hu:∀ k x,s k=some x→s (k+1)=some x) {x:α}:sup s=some x↔∃ k,s k=some x:=by
 have up:∀ d k x,s k=some x→s (k+d)=some x:=by
  intro d
  induction d with
  | zero=>intro k x h;exact h
  | succ d ih=>intro k x h;exact hu _ _ (ih k x h)
 have det:∀ k k' x y,s k=some x→s k'=some y→x=y:=fun k k' x y h h'=>by
  have a:=up k' k x h
  have b:=up k k' y h'
  rw[Nat.add_comm] at b
  rw[a] at b;exact As b
 unfold sup
 constructor
 ·intro h
  split at h
  ·rename_i hx
   obtain⟨k,hk⟩:=hx.choose_spec
   simp only[Aa] at h
   exact⟨k,by rw[← h];exact hk⟩
  ·cases h
 ·rintro⟨k,hk⟩
  have hx:∃ x k,s k=some x:=⟨x,k,hk⟩
  rw[dif_pos hx]
  obtain⟨k',hk'⟩:=hx.choose_spec
  rw[det _ _ _ _ hk' hk]
noncomputable def aB:Tower E where
 R k:=(vR E X k).1
 L k:=(vR E X k).2
 Rw f ds:=sup fun k=>(vR E X k).1 f ds
 Lw f b σ:=sup fun k=>(vR E X k).2 f b σ
 upR k:=(bF X k).1
 upL k:=(bF X k).2
 limR f ds _:=A5B fun k x h=>(bF X k).1 f ds x h
 limL f b σ _:=A5B fun k x h=>(bF X k).2 f b σ x h
noncomputable def run:Run E:=(aB X).Rw
noncomputable def lps:nW:=(aB X).Lw
theorem A9f (f:FuncId) (ds:List Dyn):run X f ds=AH3 E X (run X) (lps X) f ds:=by
 have T:=aB X
 apply Option.ext
 intro x
 constructor
 ·intro h
  obtain⟨k,hk⟩:=((aB X).limR f ds x).1 h
  cases k with
  | zero=>cases (show (none:Option _)=some x from hk)
  | succ k=>
   have hk:AH3 E X (vR E X k).1 (vR E X k).2 f ds=some x:=hk
   unfold AH3 at hk ⊢
   split at hk
   ·exact hk
   ·exact Al5 (fun f ds x h=>((aB X).limR f ds x).2 ⟨k,h⟩) (fun f b σ o h=>((aB X).limL f b σ o).2 ⟨k,h⟩) hk
 ·intro h
  refine ((aB X).limR f ds x).2 ?_
  unfold AH3 at h
  split at h
  ·rename_i h' hX
   refine⟨1,?_⟩
   show AH3 E X (vR E X 0).1 (vR E X 0).2 f ds=some x
   unfold AH3
   rw[hX];exact h
  ·rename_i hX
   obtain⟨k,hk⟩:=A7O (aB X) h
   refine⟨k+1,?_⟩
   show AH3 E X (vR E X k).1 (vR E X k).2 f ds=some x
   unfold AH3
   rw[hX];exact hk
theorem BM9 (f:FuncId) (b:Code) (σ:List SV):lps X f b σ=Af6 E (run X) (lps X) f b σ:=by
 rw[AM2]
 apply Option.ext
 intro o
 constructor
 ·intro h
  obtain⟨k,hk⟩:=((aB X).limL f b σ o).1 h
  cases k with
  | zero=>cases (show (none:Option _)=some o from hk)
  | succ k=>
   have hk:Af6 E (vR E X k).1 (vR E X k).2 f b σ=some o:=hk
   rw[AM2] at hk
   have hL:LLe (vR E X k).2 (lps X):=fun f b σ o h=>((aB X).limL f b σ o).2 ⟨k,h⟩
   exact qA (fun f ds x h=>((aB X).limR f ds x).2 ⟨k,h⟩) hL (AN7 hL) hk
 ·intro h
  obtain⟨k,hk⟩:=iZ (aB X) (κ:=fun k=>A8h E ((aB X).L k) f b) (fun j k hjk=>AN7 ((aB X).leL hjk)) (fun o r ho=>by
   obtain⟨e,σ'⟩:=o
   cases e with
   | nm=>exact ((aB X).limL _ _ _ _).1 ho
   | ex id=>exact⟨0,ho⟩
   | ret=>exact⟨0,ho⟩) h
  refine ((aB X).limL f b σ o).2 ⟨k+1,?_⟩
  show Af6 E (vR E X k).1 (vR E X k).2 f b σ=some o
  rw[AM2];exact hk
theorem BI0 {f:FuncId} (hX:X f=none) (ds:List Dyn):run X f ds=zF E (run X) (lps X) f ds:=by
 rw[A9f];unfold AH3;rw[hX]
theorem A81 (hX:∀ f h,X f=some h→∀ ds x,h ds=some x→A9R E f ds x) (hm:E.P.follows .mixedOrders=true) (hN:AO0 E.P):Ag0 E (run X):=fun f ds x h=>by
 obtain⟨k,hk⟩:=((aB X).limR f ds x).1 h
 exact (A0s hX hm hN k).1 f ds x hk
end
end Go.Rf

end
section
namespace Go.Rf
set_option linter.unusedSectionVars false
variable [T:Laid]
def kK:Ty→Bool
 | .int _=>true
 | .bool=>true
 | .str=>true
 | .unit=>true
 | .sl t=>kK t&&Nat.blt 0 t.size
 | .arr _ t=>kK t
 | .pair a b=>kK a&&kK b
 | _=>false
def A2W:(t:Ty)→t.D→Prop
 | .int k,x=>(Lit.int k x).wf=true
 | .str,x=>Au x≤maxLen
 | .sl t,x=>Au x≤maxLen∧∀ (i:Nat) (y:t.D),nth x i=some y→A2W t y
 | .arr _ t,x=>∀ (i:Nat) (y:t.D),nth x i=some y→A2W t y
 | .pair a b,x=>A2W a x.1∧A2W b x.2
 | _,_=>True
theorem AH6 {α:Type} {Q:Nat→α→Prop}:∀ {n:Nat},(∀ i,i < n→∃ y,Q i y)→∃ xs:List α,xs.length=n∧∀ i y,nth xs i=some y→Q i y
 | 0,_=>⟨[],rfl,by simp[nth]⟩
 | n+1,h=>by
  obtain⟨xs,h1,h2⟩:=AH6 (n:=n) fun i hi=>h i (by omega)
  obtain⟨y,hy⟩:=h n (by omega)
  refine⟨xs++[y],by simp[h1],fun i z hz=>?_⟩
  simp only[nth] at hz h2
  rcases A3 i n with hi|hi
  ·rw[Ba (by omega)] at hz;exact h2 i z hz
  ·rw[A' (by omega),h1] at hz
   have:i=n:=by
    have:=(Ak.1 hz).1
    simp at this;omega
   subst this
   simp at hz
   subst hz;exact hy
theorem A91 {α β:Type} {f:α→Option β}:∀ {l:List α} {r:List β},l.mapM f=some r→∀ (i:Nat) (x:α),l[i]?=some x→∃ y,f x=some y∧r[i]?=some y:=fun {_ _} h i x hx=>by
 have:=mapM_some_get h i x hx
 have hl:=mapM_some_length h
 have hi:=(Ak.1 hx).1
 exact⟨_,this.trans (Ab (by omega)),Ab (by omega)⟩
section
variable {P:Program} {w:World} {H:Type} {enc:TypeId × Value→H} {sp:Nat→Bool} {held:Bool}
theorem A0u {a:Addr} {n:Nat} {c:List Value} (hn:0 < n) (h:w.cells? 0 a n=some c):∃ cs e fz,a.spot=none∧w.heap[a.block]?=some (.cells cs e fz)∧a.off+n≤cs.size∧c=win cs.toList a.off n:=by
 obtain⟨b,o,spot⟩:=a
 unfold World.cells? at h
 rw[Ar (Al _)] at h
 have hlen:=mapM_some_length h
 have hat:∀ i,i < n→∃ y,w.cell? (B2 ⟨b,o,spot⟩ i)=some y∧c[i]?=some y:=fun i hi=>A91 h i i (by simp[hi])
 have h0:=hat 0 hn
 obtain⟨y0,h0,_⟩:=h0
 simp only[B2,AI,World.cell?] at h0
 cases hb:w.heap[b]? with
 | none=>rw[hb] at h0;simp at h0
 | some ob=>
  cases ob with
  | cells cs e fz=>
   rw[hb] at h0
   simp only at h0
   split at h0
   ·cases h0
   ·rename_i hs
    have hs:spot=none:=by cases spot<;>simp_all
    subst hs
    have hc:∀ i,i < n→cs[o+i]?=c[i]?:=fun i hi=>by
     obtain⟨y,h1,h2⟩:=hat i hi
     rw[mL] at h1
     simp only[World.cell?,hb] at h1
     rw[h2]
     simpa using h1
    have hsz:o+n≤cs.size:=by
     have:=hc (n - 1) (by omega)
     have h2:n - 1 < c.length:=by simp at hlen;omega
     rw[Ab h2] at this
     have:=(A0.1 this).1
     omega
    refine⟨cs,e,fz,rfl,rfl,hsz,?_⟩
    apply List.ext_getElem?
    intro i
    simp only[win]
    by_cases hi:i < n
    ·rw[List.getElem?_take_of_lt hi,List.getElem?_drop,← hc i hi]
     simp
    ·rw[AP (by simp at hlen;omega),AP (by simp;omega)]
  | _=>rw[hb] at h0;simp at h0
theorem gK {d:Nat} {t:TypeId} {τ:Ty} (h:tyN P (d+1) t=some τ):P.cellsOf t=τ.size:=by
 obtain⟨i,u,h1,_,h3,_⟩:=pD h
 simp[Program.cellsOf,h1,h3]
theorem Ai1 {d fuel:Nat} (ih:∀ (t:TypeId) (τ:Ty) (cs:List Value) (data:DataW H × List MemPlace),tyN P (d+1) t=some τ→kK τ=true→DataW.trod enc P w 0 sp held fuel t cs=some data→∃ x:τ.D,Rd (fun b=>b < w.heap.size) w τ x cs∧A2W τ x) {cs:List Value}:
  ∀ {fs:List Field} {off:Nat} {τ:Ty},qU (tyN P (d+1)) fs off=some τ→kK τ=true →
   (∀ f ∈ fs,∃ y,DataW.trod enc P w 0 sp held fuel f.type ((cs.drop f.offset).take (P.cellsOf f.type))=some y)→cs.length=off+τ.size→∃ x:τ.D,Rd (fun b=>b < w.heap.size) w τ x (cs.drop off)∧A2W τ x
 | [],off,τ,hc,_,_,hl=>by
  simp only[qU,Aa] at hc
  subst hc
  simp only[Ty.size] at hl
  refine⟨(),?_,trivial⟩
  simp only[Rd]
  exact List.drop_eq_nil_iff.2 (by omega)
 | f :: fs,off,τ,hc,hp,hm,hl=>by
  simp only[qU] at hc
  split at hc
  ·rename_i a ha
   split at hc
   ·rename_i ho
    have ho:f.offset=off:=by simpa[B1] using ho
    obtain⟨b,hb,rfl⟩:=Ae.1 hc
    simp only[kK,Ad] at hp
    simp only[Ty.size] at hl
    obtain⟨y,h1⟩:=hm f (by simp)
    rw[gK ha,ho] at h1
    obtain⟨x,hx,hfx⟩:=ih f.type a _ y ha hp.1 h1
    obtain⟨z,hz,hfz⟩:=Ai1 ih hb hp.2 (fun f' hf'=>hm f' (by simp[hf'])) (by omega)
    refine⟨(x,z),?_,hfx,hfz⟩
    simp only[Rd]
    refine⟨hx,?_⟩
    rw[List.drop_drop];exact hz
   ·cases hc
  ·cases hc
theorem Aq8:∀ {d fuel:Nat} {t:TypeId} {τ:Ty} {cs:List Value} {data:DataW H × List MemPlace},tyN P d t=some τ→kK τ=true→DataW.trod enc P w 0 sp held fuel t cs=some data →
  ∃ x:τ.D,Rd (fun b=>b < w.heap.size) w τ x cs∧A2W τ x
 | 0,_,_,_,_,_,h,_,_=>by simp[tyN] at h
 | d+1,fuel,t,τ,cs,data,ht,hp,h=>by
  obtain⟨i,u,hi,hu,hsz,hsh⟩:=pD ht
  have hcell:P.cellsOf t=τ.size:=gK ht
  unfold pI at hsh
  split at hsh
  ·subst hsh
   obtain⟨n,rfl,_,hw⟩:=DataW.trod_int hu h
   exact⟨n,by simp only[Rd],hw⟩
  ·subst hsh
   obtain⟨b,rfl,_⟩:=DataW.trod_bool hu h
   exact⟨b,by simp only[Rd],trivial⟩
  ·subst hsh
   obtain⟨s,rfl,_,hs⟩:=DataW.trod_string hu h
   exact⟨s.data.toList,by simp only[Rd],by simp only[A2W];rw[Array.length_toList];exact hs⟩
  ·subst hsh;simp[kK] at hp
  ·rename_i e
   obtain⟨a,ha,rfl⟩:=hsh
   simp only[kK,Ad] at hp
   have hpos:0 < a.size:=by have:=hp.2;simpa[Nat.blt_eq] using this
   cases d with
   | zero=>simp[tyN] at ha
   | succ d=>
   have hce:=gK ha
   rcases DataW.trod_slice hu h with ⟨rfl,_⟩| ⟨ad,len,cap,elems,rest,n,rfl,rfl,_,_,hlc,hcm,hel,hat,_,_⟩
   ·exact⟨([]:List a.D),by simp only[Rd];exact⟨none,0,rfl,Ao _,.inl rfl⟩,by simp[A2W,nth]⟩
   ·rw[hce] at hat
    have key:∀ i,i < len→∃ y:a.D,∃ c,w.cells? 0 (ad.add (i * a.size)) a.size=some c∧Rd (fun b=>b < w.heap.size) w a y c∧A2W a y:=fun i hi=>by
     have:=hat i hi
     rw[Ab (by omega)] at this
     obtain⟨c,h1,h2⟩:=Ac.1 this
     obtain⟨y,hy,hf⟩:=Aq8 ha hp.1 h2
     exact⟨y,c,h1,hy,hf⟩
    obtain⟨xs,hx1,hx2⟩:=AH6 key
    rcases Nat.eq_zero_or_pos len with h0|h0
    ·refine⟨xs,?_,?_⟩
     ·simp only[Rd]
      exact⟨some ad,cap,by rw[hx1],by rw[hx1];exact hlc,.inl (Bg.1 (by omega))⟩
     ·simp only[A2W]
      exact⟨by rw[hx1];omega,fun i y hy=>(hx2 i y hy).choose_spec.2.2⟩
    ·obtain⟨c0,hc0⟩:∃ c,w.cells? 0 (ad.add (0 * a.size)) a.size=some c:=by
      obtain⟨y,c,h1,_⟩:=key 0 h0;exact⟨c,h1⟩
     obtain⟨cs,ee,fz,hsp,hb,_,_⟩:=A0u hpos hc0
     obtain⟨b,o,spot⟩:=ad
     simp only[Nat.zero_mul,B2,AI] at hsp hb
     subst hsp
     have hcell:∀ i c,w.cells? 0 (B2 ⟨b,o,none⟩ (i * a.size)) a.size=some c→o+i * a.size+a.size≤cs.size∧c=win cs.toList (o+i * a.size) a.size:=fun i c hc=>by
      rw[mL] at hc
      obtain⟨cs',ee',fz',_,hb',h3,h4⟩:=A0u hpos hc
      rw[hb] at hb'
      simp only[Aa,Obj.cells.injEq] at hb'
      obtain⟨rfl,_,_⟩:=hb'
      exact⟨h3,h4⟩
     refine⟨xs,?_,?_⟩
     ·simp only[Rd]
      refine⟨some ⟨b,o,none⟩,cap,by rw[hx1],by rw[hx1];exact hlc,.inr ⟨b,o,cs,rfl,(A0.1 hb).1,⟨ee,fz,hb⟩,?_,fun i y hy=>?_⟩⟩
      ·obtain⟨y,c,h1,_⟩:=key (len - 1) (by omega)
       have:=(hcell _ _ h1).1
       rw[hx1]
       have e:len * a.size=(len - 1) * a.size+a.size:=by
        rw[← Nat.succ_mul];congr 1;omega
       omega
      ·obtain⟨c,h1,h2,_⟩:=hx2 i y hy
       rw[← (hcell i c h1).2];exact h2
     ·simp only[A2W]
      exact⟨by rw[hx1];omega,fun i y hy=>(hx2 i y hy).choose_spec.2.2⟩
  ·obtain⟨a,_,rfl⟩:=hsh;simp[kK] at hp
  ·rename_i n e
   obtain⟨a,ha,rfl⟩:=hsh
   simp only[kK] at hp
   cases d with
   | zero=>simp[tyN] at ha
   | succ d=>
   have hce:=gK ha
   obtain⟨xs,m,rfl,_,hl,hxl,hat⟩:=DataW.trod_array hu h
   rw[hce] at hat
   rw[hcell] at hl
   have key:∀ i,i < n→∃ y:a.D,Rd (fun b=>b < w.heap.size) w a y (win cs (i * a.size) a.size)∧A2W a y:=fun i hi=>by
    have:=hat i hi
    rw[Ab (by omega)] at this
    exact Aq8 ha hp this
   obtain⟨ys,hy1,hy2⟩:=AH6 key
   refine⟨ys,?_,?_⟩
   ·simp only[Rd]
    exact⟨hy1,hl,fun i y hy=>(hy2 i y hy).1⟩
   ·simp only[A2W]
    exact fun i y hy=>(hy2 i y hy).2
  ·rename_i fs
   cases d with
   | zero=>
    cases hfs:fs.toList with
    | nil=>
     rw[hfs] at hsh
     simp only[qU,Aa] at hsh
     subst hsh
     obtain⟨xs,n,rfl,_,hl,_,_⟩:=DataW.trod_struct hu h
     rw[hcell] at hl
     exact⟨(),by simp only[Rd];exact Bg.1 hl,trivial⟩
    | cons f fs'=>
     rw[hfs] at hsh
     simp[qU,tyN] at hsh
   | succ d=>
   obtain⟨xs,n,rfl,_,hl,hxl,hat⟩:=DataW.trod_struct hu h
   rw[hcell] at hl
   have:=Ai1 (cs:=cs) (fun t τ cs data h1 h2 h3=>Aq8 h1 h2 h3) hsh hp (fun f hf=>by
    obtain⟨i,hi,e⟩:=List.mem_iff_getElem.1 hf
    have h1:fs[i]?=some f:=by
     rw[← AQ,Ab hi,e]
    have:=hat i f h1
    rw[Ab (by simp at hi;omega)] at this
    exact⟨_,this⟩) (by omega)
   simpa using this
  ·exact hsh.elim
end
end Go.Rf

end
section
namespace Go.Rf
set_option linter.unusedSectionVars false
variable [T:Laid]
open Go.ChangeShapes Go.WideShapes Go.ChangeAt Go.RowKit
def A1X:List Dyn→Prop
 | []=>True
 | d :: ds=>A2W d.t d.x∧A1X ds
section
variable {P:Program} {w:World} {H:Type} {enc:TypeId × Value→H} {sp:Nat→Bool} {held:Bool}
theorem A1c {d:Nat} {t:TypeId} {τ:Ty} {v:Value} (ht:tyN P (d+1) t=some τ) (hp:kK τ=true) (hv:Value.okWide P w .any 0 t v∨∃ b,Value.okWide P w .any b t v):v=zV τ v.cells.toList:=by
 have hv:∃ b,Value.okWide P w .any b t v:=hv.elim (fun h=>⟨0,h⟩) id
 obtain⟨b,hv⟩:=hv
 obtain⟨i,u,hi,hu,hsz,hsh⟩:=pD ht
 unfold pI at hsh
 split at hsh
 ·subst hsh;obtain⟨n,rfl⟩:=okWide_int hu hv;rfl
 ·subst hsh;obtain⟨n,rfl⟩:=okWide_bool hu hv;rfl
 ·subst hsh;obtain⟨n,rfl⟩:=okWide_string hu hv;rfl
 ·subst hsh;simp[kK] at hp
 ·obtain⟨a,_,rfl⟩:=hsh;obtain⟨_,_,_,rfl⟩:=okWide_slice hu hv;rfl
 ·obtain⟨a,_,rfl⟩:=hsh;simp[kK] at hp
 ·obtain⟨a,_,rfl⟩:=hsh
  unfold Value.okWide at hv
  rw[hu] at hv
  obtain⟨cs,rfl,_⟩:=hv
  simp[zV,Ty.agg,Value.cells]
 ·obtain⟨cs,rfl,_⟩:=okWide_struct hu hv
  rcases qG hsh with rfl|⟨a,b,rfl⟩<;>simp[zV,Ty.agg,Value.cells]
 ·exact hsh.elim
theorem At4:∀ {ts:List TypeId} {vs:List Value} {ds:List (DataW H)} {ps:List MemPlace} {tys:List Ty} {b:Nat},DataW.TrodAll enc P w 0 sp held ts vs ds ps→ts.map (tyN P 8)=tys.map some→tys.all kK=true →
  (∀ (j:Nat) (t:TypeId) (v:Value),ts[j]?=some t→vs[j]?=some v→Value.okWide P w .any b t v) →
  ∃ dy cs,cY (fun b=>b < w.heap.size) w dy cs∧yH dy cs=vs∧dy.map Dyn.t=tys∧A1X dy∧ds.length=ts.length
 | [],[],[],ps,tys,b,_,ht,_,_=>by
  cases tys with
  | nil=>exact⟨[],[],by simp[cY],by simp[yH],rfl,trivial,rfl⟩
  | cons _ _=>simp at ht
 | t :: ts,v :: vs,d :: ds,ps,tys,b,h,ht,hp,hv=>by
  cases tys with
  | nil=>simp at ht
  | cons τ tys=>
   simp only[Ag,Af] at ht
   simp only[Bk,Ad] at hp
   obtain⟨p,q,⟨fuel,h1⟩,h2,_⟩:=h
   obtain⟨x,hx,hf⟩:=Aq8 ht.1 hp.1 h1
   obtain⟨dy,cs,q1,q2,q3,q4,q5⟩:=At4 h2 ht.2 hp.2 (fun j t' v' h1 h2=>hv (j+1) t' v' (by simpa using h1) (by simpa using h2))
   refine⟨⟨τ,x⟩ :: dy,v.cells.toList :: cs,⟨hx,q1⟩,?_,by simp[q3],⟨hf,q4⟩,by simp[q5]⟩
   simp only[yH,q2]
   rw[← A1c ht.1 hp.1 (.inr ⟨b,hv 0 t v rfl rfl⟩)]
 | [],_ :: _,_,_,_,_,h,_,_,_=>by simp[DataW.TrodAll] at h
 | [],[],_ :: _,_,_,_,h,_,_,_=>by simp[DataW.TrodAll] at h
 | _ :: _,[],_,_,_,_,h,_,_,_=>by simp[DataW.TrodAll] at h
 | _ :: _,_ :: _,[],_,_,_,h,_,_,_=>by simp[DataW.TrodAll] at h
theorem AL3 (hl:laidOutB P=true) {W W':World} (hb:Below W.heap.size W W'):∀ {ts:List TypeId} {vs:List Value} {ds:List (DataW H)} {ps:List MemPlace},DataW.TrodAll enc P W 0 (fun _=>true) true ts vs ds ps →
  (∀ t ∈ ts,P.readableRec t=true∧t < P.types.size)→DataW.TrodAll enc P W' 0 (fun b=>decide (b < W.heap.size)) true ts vs ds ps
 | [],[],[],ps,h,_=>h
 | t :: ts,v :: vs,d :: ds,ps,h,hr=>by
  obtain⟨p,q,h1,h2,rfl⟩:=h
  refine⟨p,q,?_,AL3 hl hb h2 fun t' h'=>hr t' (by simp[h']),rfl⟩
  have ⟨fuel,h1'⟩:=h1
  exact Below.trod hl (hr t (by simp)).1 (hr t (by simp)).2 h1 hb (DataW.trod_lt fuel _ _ _ h1')
 | [],_ :: _,_,_,h,_=>by simp[DataW.TrodAll] at h
 | [],[],_ :: _,_,h,_=>by simp[DataW.TrodAll] at h
 | _ :: _,[],_,_,h,_=>by simp[DataW.TrodAll] at h
 | _ :: _,_ :: _,[],_,h,_=>by simp[DataW.TrodAll] at h
end
def A7H:(t:Ty)→t.D→Bool
 | .pair .bool _,x=>x.1
 | _,_=>false
theorem A9a:∀ {tys:List Ty} {dy:List Dyn},dy.map Dyn.t=tys→Af9 (tys.map .ro) dy=true
 | [],[],_=>rfl
 | t :: tys,d :: dy,h=>by
  simp only[Ag,Af] at h
  simp only[Ag,Af9,h.1,decide_true,Bool.true_and]
  exact A9a h.2
 | [],_ :: _,h=>by simp at h
 | _ :: _,[],h=>by simp at h
theorem A74 {E:Env} {R:Run E} (hR:Ag0 E R) {f:FuncId} {fn:Func} {W:World} {tys:List Ty} {dy:List Dyn} {cs:List (List Value)} (hfn:E.P.funcs[f]?=some fn) (hb:fn.body.isNone=false) {keep:List Nat} {mv:List (Nat × Nat)}
  (hcfg:E.cfg f=⟨tys.map .ro,1,.pair .bool .unit,.sh,keep,mv⟩) (hdy:dy.map Dyn.t=tys) (hrd:cY (fun b=>b < W.heap.size) W dy cs) {x:(E.cfg f).rt.D} (hx:R f dy=some x) (ht:A7H _ x=true) (htab:∀ t ∈ T.tabs,Blk W t.1 t.2):
  Calls E.P f (yH dy cs).toArray W fun e W'=>e=.returned (.bool true)∧Below W.heap.size W W':=by
 have h:=hR f dy x hx W (fun b=>b < W.heap.size) (fun _=>none) cs ⟨fun _ _ _ h=>by simp at h,fun _ _ h=>by simp at h,fun _ _ h=>by simp at h,fun _ h=>h,fun t ht=>⟨(htab t ht).lt,htab t ht⟩⟩ (A6k (by rw[hcfg];exact A9a hdy) hrd)
 have post:∀ v W',Ret (E.cfg f) x cs W (fun b=>b < W.heap.size) (fun _=>none) v W'→v=.bool true∧Below W.heap.size W W':=by
  rintro v W' ⟨S',β',crs,h1,h2,h3,h4,h5⟩
  refine⟨?_,⟨h2.out.os,h2.out.tape,h2.out.output,h2.size,fun k hk=>h2.old k hk (fun _=>by simp)⟩⟩
  have key:∀ (c:FCfg) (x:c.rt.D),c=⟨tys.map .ro,1,.pair .bool .unit,.sh,keep,mv⟩→A7H _ x=true→oY S' β' W' c.nres 0 c.rt c.rf x crs→v=AT4 (oA c.nres c.rt crs)→v=.bool true:=by
   intro c x hc ht h3 h4
   subst hc
   match crs,h3 with
   | [c],h3=>
    simp only[oY] at h3
    have:=h3.1
    simp only[Fl.l] at this
    rw[yO] at this
    simp only[Rd] at this
    subst this
    have ht:x.1=true:=ht
    rw[h4]
    show Value.bool x.1=_
    rw[ht]
   | [],h3=>simp[oY] at h3
   | _ :: _ :: _,h3=>simp[oY] at h3
  exact key _ x hcfg ht h3 h4
 rcases h with ⟨fn',_,_,_,h⟩| ⟨v,w',hrun,hret⟩
 ·refine h.mono fun e W' he=>?_
  cases e with
  | returned v=>obtain⟨rfl,hb⟩:=post v W' he;exact⟨rfl,hb⟩
  | panicked _=>exact he.elim
  | outgrown=>exact he.elim
 ·exfalso
  have hb':fn.body≠none:=fun e=>by rw[e] at hb;simp at hb
  by_cases hnm:fn.name = "runtime.NumGoroutine"
  ·have hr:(callFunc f (yH dy cs).toArray).run E.P W=.ok .numGoroutine W:=by
    simp only[callFunc,go_sem]
    simp[hfn,hnm]
   rw[hr] at hrun;simp at hrun
  ·have hr:(callFunc f (yH dy cs).toArray).run E.P W=.ok (.enter f (yH dy cs).toArray) W:=by
    simp only[callFunc,go_sem]
    simp[hfn,hnm,hb']
   rw[hr] at hrun;simp at hrun
theorem BB1 {C:Checked} {cfg:FuncId→FCfg} {R:Run ⟨C.prog,cfg⟩} (hR:Ag0 ⟨C.prog,cfg⟩ R) {f:FuncId} {fn:Func} {s:ChangeSpec} {tys:List Ty} {keep:List Nat} {mv:List (Nat × Nat)} {tb:TypeId} {n:Nat}
  (hcfg:cfg f=⟨tys.map .ro,1,.pair .bool .unit,.sh,keep,mv⟩) (hfn:C.prog.funcs[f]?=some fn) (hb:fn.body.isNone=false) (hty:fn.params.toList.map (tyN C.prog 8)=tys.map some) (hp:tys.all kK=true)
  (hvars:s.vars=[]) (hs:∀ (H:Type) (ds:List (DataW H)),ds.length=n→s.fn H ds={ results:=[.lit (.bool true)],args:=ds }) (hn:fn.params.toList.length=n) (hrt:fn.resultTypes=#[tb]) (hut:C.prog.underlying tb=some .bool)
  (hl:laidOutB C.prog=true) (hr:∀ t ∈ fn.params.toList,C.prog.readableRec t=true∧t < C.prog.types.size)
  (hx:∀ dy:List Dyn,dy.map Dyn.t=tys→A1X dy→∃ x,R f dy=some x∧A7H _ x=true)
  {H:Type} (enc:TypeId × Value→H) (W:World) (htab:∀ t ∈ T.tabs,Blk W t.1 t.2) (base:Nat) (args:Array Value) (ds gs:List (DataW H)) (before:List MemPlace)
  (hval:∀ (j:Nat) t v,fn.params[j]?=some t→args[j]?=some v→Value.okWide C.prog W .any base t v)
  (hW:DataW.Whole enc C.prog fn.params.toList s.vars false W args.toList ds gs before):
  Calls C.prog f args W fun e W'=>∃ v,e=.returned v∧s.post enc C.prog fn false true false false W args v W':=by
 have hW':=hW
 obtain⟨p,q,hA,hV,rfl,hfz,hnd⟩:=hW
 rw[hvars] at hV
 obtain⟨rfl,rfl⟩:=trodVars_none hV
 obtain⟨dy,cs,h1,h2,h3,h4,h5⟩:=At4 (b:=base) hA hty hp (fun j t v hj hv=>hval j t v (by simpa using hj) (by simpa using hv))
 obtain⟨x,hx1,hx2⟩:=hx dy h3 h4
 have hc:=A74 hR hfn hb hcfg h3 h1 hx1 hx2 htab
 have hargs:(yH dy cs).toArray=args:=by rw[h2]
 rw[hargs] at hc
 refine hc.mono fun e W' ⟨he,bel⟩=>?_
 refine⟨_,he,ds,[],_,[],p,[],hW',?_,?_,?_,bel.frame _,fun h=>by cases h⟩
 ·rw[hs H (ds++[]) (by simp[h5,hn]),hrt]
  exact trodAll_mk1 (shut_bool hut _)
 ·rw[hs H (ds++[]) (by simp[h5,hn])]
  simp only[B0]
  exact AL3 hl bel hA hr
 ·rw[hvars,hs H (ds++[]) (by simp[h5,hn])]
  rfl
end Go.Rf

end
section
namespace Go.Rf
set_option linter.unusedSectionVars false
variable [T:Laid]
def A1r:List (Nat × FCfg)→FuncId→FCfg
 | [],_=>⟨[],0,.unit,.sh,[],[]⟩
 | (n,c) :: l,f=>cond (Ap n f) c (A1r l f)
def BL5 (P:Program):Bool:=P.funcs.toList.all fun fn=>!(fn.name == "runtime.NumGoroutine")
theorem Aj6 {P:Program} (h:BL5 P=true):AO0 P:=fun f fn hf=>by
 have:=Be.1 h fn (by
  obtain⟨hi,e⟩:=A0.1 hf
  rw[← e];exact Array.mem_toList_iff.2 (Array.getElem_mem hi))
 simpa using this
def kW (E:Env) (R:Run E) (v:FnVal) (ds:List Dyn):Option Bool:=A6d E R v ds .bool
def mA:Code→List Nat→Bool
 | .loop (.loop _),[]=>false
 | .loop _,[]=>true
 | .seq a _,0 :: p=>mA a p
 | .seq _ b,1 :: p=>mA b p
 | .cond _ a _,0 :: p=>mA a p
 | .cond _ _ b,1 :: p=>mA b p
 | .block _ b,0 :: p=>mA b p
 | .loop b,0 :: p=>mA b p
 | _,_=>false
section
variable {E:Env} {X:(f:FuncId)→Option (List Dyn→Option (E.cfg f).rt.D)} {ρ:Type} {f:FuncId}
theorem AI2 {R:Run E} {ρ':Type} {mv:List Nat} {all:List Oper} {draw:Bool} {κ1:List Slot→Option ρ} {κ2:ρ→Option ρ'}:∀ {os:List Oper} {i:Nat} {l:List Slot} {acc:List Rec},
  jH E R mv all draw os i l acc (fun l=>(κ1 l).bind κ2)=(jH E R mv all draw os i l acc κ1).bind κ2
 | [],i,l,acc=>by
  unfold jH
  split
  ·split<;>rfl
  ·rfl
 | o :: os,i,l,acc=>by
  have hgo:∀ {gs:List Nat} {l:List Slot},opK E R (mv.any (Ap i ·)) (tX l (Ad7 o l)) o (fun us=>jH E R mv all draw os (i+1) (oQ l us) (acc++[(AJ9 (mv.any (Ap i ·)) gs l o us:Rec)]) (fun l=>(κ1 l).bind κ2)) =
    (opK E R (mv.any (Ap i ·)) (tX l (Ad7 o l)) o (fun us=>jH E R mv all draw os (i+1) (oQ l us) (acc++[(AJ9 (mv.any (Ap i ·)) gs l o us:Rec)]) κ1)).bind κ2:=fun {gs l}=>by
   have e1:=dX (E:=E) (R:=R) (mv:=mv.any (Ap i ·)) (g:=tX l (Ad7 o l)) (o:=o) (κ:=fun us=>jH E R mv all draw os (i+1) (oQ l us) (acc++[(AJ9 (mv.any (Ap i ·)) gs l o us:Rec)]) κ1)
   rw[dX,e1,Bq]
   congr
   funext us
   exact AI2
  have hskip:∀ {gs:List Nat} {l:List Slot},(match o.dst with
    | some d=>jH E R mv all draw os (i+1) (upL l (.put d .und)) (acc++[(⟨gs,[d],[],[d],[],[d]⟩:Rec)]) (fun l=>(κ1 l).bind κ2)
    | none=>jH E R mv all draw os (i+1) l (acc++[(⟨gs,[],[],[],[],[]⟩:Rec)]) (fun l=>(κ1 l).bind κ2)) =
    (match o.dst with
    | some d=>jH E R mv all draw os (i+1) (upL l (.put d .und)) (acc++[(⟨gs,[d],[],[d],[],[d]⟩:Rec)]) κ1
    | none=>jH E R mv all draw os (i+1) l (acc++[(⟨gs,[],[],[],[],[]⟩:Rec)]) κ1).bind κ2:=fun {gs l}=>by
   cases hd:o.dst with
   | some d=>exact AI2
   | none=>exact AI2
  unfold jH
  simp only
  split
  ·exact hgo
  ·split
   ·rfl
   ·split
    ·rename_i t hv
     cases t with
     | true=>
      simp only[AD]
      split
      ·exact hgo
      ·exact hskip
     | false=>
      simp only[A6]
      split
      ·exact hskip
      ·exact hgo
    ·exact hskip
    ·rfl
theorem fB {R:Run E} {L:nW} {ρ':Type} {κ2:ρ→Option ρ'} (hu:A4V (E.cfg f).keep=false):∀ {c:Code} {σ:List SV} {κ1:Out→Option ρ},evB E R L f c σ (fun o=>(κ1 o).bind κ2)=(evB E R L f c σ κ1).bind κ2
 | .skip,_,_=>rfl
 | .exit _,_,_=>rfl
 | .ret,_,_=>rfl
 | .region id ops draw,σ,κ1=>by
  simp only[evB,AY9]
  exact AI2 (κ1:=fun l=>κ1 ⟨.nm,AG0 (E.cfg f).keep l l 0⟩)
 | .seq a b,σ,κ1=>by
  simp only[evB]
  rw[← fB hu (c:=a)]
  congr
  funext o
  obtain⟨e,σ'⟩:=o
  cases e with
  | nm=>exact fB hu
  | ex id=>rfl
  | ret=>rfl
 | .block id b,σ,κ1=>by
  simp only[evB]
  rw[← fB hu (c:=b)]
  congr
  funext o
  obtain⟨e,σ'⟩:=o
  cases e with
  | ex j=>simp only[AL5];split<;>rfl
  | nm=>rfl
  | ret=>rfl
 | .loop b,σ,κ1=>by
  simp only[evB,Al9]
  rw[Bq]
 | .cond c a b,σ,κ1=>by
  simp only[evB]
  split
  ·split
   ·rename_i x hx
    cases x with
    | true=>simp only[AD];exact fB hu
    | false=>simp only[A6];exact fB hu
   ·simp only[hu,Bl,if_false];rfl
   ·rfl
  ·rename_i x
   cases x with
   | true=>simp only[AD];exact fB hu
   | false=>simp only[A6];exact fB hu
  ·rfl
 | .rangeFunc _ _ _ _,_,_|.scope _,_,_|.label _,_,_|.goto _,_,_|.refuse _,_,_=>rfl
theorem A15 (hu:A4V (E.cfg f).keep=false) {b:Code} {σ:List SV} {κ:Out→Option ρ}:Al9 (lps X) f b σ κ=evB E (run X) (lps X) f b σ (BJ9 E (lps X) f b κ):=by
 unfold Al9
 rw[BM9,AM2,← fB hu]
 congr
 funext o
 obtain⟨e,σ'⟩:=o
 cases e<;>rfl
theorem qX (hu:A4V (E.cfg f).keep=false):∀ {c:Code} {p:List Nat} {σ:List SV} {κ:Out→Option ρ},mA c p=true →
  A3S E (run X) (lps X) f (sub c p) σ (kY E (run X) (lps X) f c p κ)=A3S E (run X) (lps X) f (sub c (p++[0])) σ (kY E (run X) (lps X) f c (p++[0]) κ)
 | .loop b,[],σ,κ,h=>by
  have e:∀ κ':Out→Option ρ,A3S E (run X) (lps X) f b σ κ'=evB E (run X) (lps X) f b σ κ':=fun κ'=>by
   cases b<;>first|rfl|simp[mA] at h
  simp only[sub,AH,kY]
  rw[e]
  exact A15 hu
 | .seq a _,0 :: p,σ,κ,h=>by simp only[mA] at h;simp only[sub,kY,Ah];exact qX hu h
 | .seq _ b,1 :: p,σ,κ,h=>by simp only[mA] at h;simp only[sub,kY,Ah];exact qX hu h
 | .cond _ a _,0 :: p,σ,κ,h=>by simp only[mA] at h;simp only[sub,kY,Ah];exact qX hu h
 | .cond _ _ b,1 :: p,σ,κ,h=>by simp only[mA] at h;simp only[sub,kY,Ah];exact qX hu h
 | .block _ b,0 :: p,σ,κ,h=>by simp only[mA] at h;simp only[sub,kY,Ah];exact qX hu h
 | .loop b,0 :: p,σ,κ,h=>by simp only[mA] at h;simp only[sub,kY,Ah];exact qX hu h
 | .skip,_,_,_,h|.region _ _ _,_,_,_,h|.exit _,_,_,_,h|.ret,_,_,_,h|.rangeFunc _ _ _ _,_,_,_,h|.scope _,_,_,_,h|.label _,_,_,_,h|.goto _,_,_,_,h|.refuse _,_,_,_,h=>by simp[mA] at h
 | .seq _ _,[],_,_,h|.cond _ _ _,[],_,_,h|.block _ _,[],_,_,h=>by simp[mA] at h
 | .seq _ _,(_+2) :: _,_,_,h|.cond _ _ _,(_+2) :: _,_,_,h|.block _ _,(_+1) :: _,_,_,h|.loop _,(_+1) :: _,_,_,h=>by simp[mA] at h
theorem A5m {fn:Func} {p:List Nat} {σ:List SV} (h:(mA (A2i fn) p&&!A4V (E.cfg f).keep)=true):zQ E (run X) (lps X) f fn p σ=zQ E (run X) (lps X) f fn (p++[0]) σ:=by
 rw[Ad,Am] at h
 exact qX h.2 h.1
end
end Go.Rf

end
section
namespace Go.Rf
set_option linter.unusedSectionVars false
variable [T:Laid]
theorem nn (i:Nat):zA (i:Int)=true:=by simp[zA]
theorem tn (i:Nat):Int.toNat (i:Int)=i:=Int.toNat_natCast i
theorem zT {i n:Nat} (h:i < n):Nat.blt i n=true:=by simpa[Nat.blt_eq] using h
theorem AN5 {i n:Nat} (h:i < n):decide ((i:Int) < (n:Int))=true:=by simpa using h
theorem AN4 {i n:Nat} (h:n≤i):decide ((i:Int) < (n:Int))=false:=by simpa using h
theorem yI {n:Int} (h1:-9223372036854775808≤n) (h2:n≤9223372036854775807):Br .i64 n=n:=by
 have e:∀ m:Int,(if (IntKind.i64.signed&&decide (m ≥ (2 ^ (IntKind.i64.bits - 1):Int)))=true then m - (2 ^ IntKind.i64.bits:Int) else m)=if (9223372036854775808:Int)≤m then m - 18446744073709551616 else m:=fun m=>by
  by_cases h:(9223372036854775808:Int)≤m
  ·rw[Ar h,Ar]
   ·rfl
   ·show (true&&decide (m ≥ (9223372036854775808:Int)))=true
    simpa using h
  ·rw[Aq h,Aq]
   show ¬ (true&&decide (m ≥ (9223372036854775808:Int)))=true
   simpa using h
 unfold Br
 refine (e _).trans ?_
 show (if (9223372036854775808:Int)≤n % 18446744073709551616 then n % 18446744073709551616 - 18446744073709551616 else n % 18446744073709551616)=n
 split<;>omega
theorem zB {i:Nat} (h:i < 9223372036854775807):Br .i64 ((i:Int)+1)=((i+1:Nat):Int):=by
 rw[yI (by omega) (by omega)];omega
theorem uS {a b:Int}:eqI a b=decide (a=b):=rfl
theorem hM {a b:List UInt8}:eqS a b=decide (a=b):=rfl
theorem wC {n:Nat} (h:n≤1099511627776):zX n=true:=by simpa[zX,Nat.ble_eq] using h
theorem pZ {α:Type} {l:List α} {i:Nat} {d:α} (h:i < l.length):l.getD i d ∈ l:=by
 rw[AA,Ab h];exact List.getElem_mem h
theorem oM {α:Type} {l:List α} {i:Nat} {d:α} (h:i < l.length):l.drop i=l.getD i d :: l.drop (i+1):=by
 rw[AA,Ab h,List.drop_eq_getElem_cons h];rfl
end Go.Rf

end
section
namespace Go.Rf
set_option linter.unusedSectionVars false
variable [T:Laid]
def cnt:(t:Ty)→t.D→Nat
 | .str,x=>Au x
 | .sl t,x=>Au x+(AV (cnt t) x).sum
 | .pair a b,x=>cnt a x.1+cnt b x.2
 | _,_=>0
theorem AI0 {α:Type} (F:Int→Option (Bool × Unit)) (v:List α)
  (stop:F (v.length:Nat)=some (true,()))
  (step:∀ (i:Nat),i < v.length→F i=F ((i+1:Nat):Int)):
  ∀ (n i:Nat),v.length - i=n→i≤v.length→F i=some (true,())
 | 0,i,hn,hi=>by
  have:i=v.length:=by omega
  subst this
  exact stop
 | n+1,i,hn,hi=>by
  rw[step i (by omega)]
  exact AI0 F v stop step n (i+1) (by omega) (by omega)
def mapM {α:Type} (f:α→Nat→α × Nat):List α→Nat→List α × Nat
 | [],k=>([],k)
 | x :: xs,k=>((f x k).1 :: (mapM f xs (f x k).2).1,(mapM f xs (f x k).2).2)
def mk_ (mt:Nat→List UInt8):Bool→(t:Ty)→t.D→Nat→t.D × Nat
 | true,.int _,_,k=>((k:Int),k+1)
 | true,.str,_,k=>(mt k,k+1)
 | _,.sl t,x,k=>mapM (mk_ mt true t) x k
 | c,.pair a b,x,k=>(((mk_ mt c a x.1 k).1,(mk_ mt c b x.2 (mk_ mt c a x.1 k).2).1),(mk_ mt c b x.2 (mk_ mt c a x.1 k).2).2)
 | _,_,x,k=>(x,k)
def nmk:Bool→(t:Ty)→t.D→Nat
 | true,.int _,_=>1
 | true,.str,_=>1
 | _,.sl t,x=>(AV (nmk true t) x).sum
 | c,.pair a b,x=>nmk c a x.1+nmk c b x.2
 | _,_,_=>0
theorem Am3 {α:Type} {f:α→Nat→α × Nat} {m:α→Nat} (h:∀ x k,(f x k).2=k+m x):∀ (l:List α) (k:Nat),(mapM f l k).2=k+(l.map m).sum
 | [],k=>rfl
 | x :: xs,k=>by
  show (mapM f xs (f x k).2).2=_
  rw[Am3 h xs,h,Ag,AF];omega
theorem qQ (mt:Nat→List UInt8):∀ (c:Bool) (t:Ty) (x:t.D) (k:Nat),(mk_ mt c t x k).2=k+nmk c t x
 | true,.int _,_,_=>rfl
 | true,.str,_,_=>rfl
 | true,.sl t,x,k=>Am3 (qQ mt true t) x k
 | false,.sl t,x,k=>Am3 (qQ mt true t) x k
 | c,.pair a b,x,k=>by
  have e:(mk_ mt c (.pair a b) x k).2=(mk_ mt c b x.2 (mk_ mt c a x.1 k).2).2:=by cases c<;>rfl
  have e':nmk c (.pair a b) x=nmk c a x.1+nmk c b x.2:=by cases c<;>rfl
  rw[e,e',qQ mt c b,qQ mt c a];omega
 | true,.bool,_,_=>rfl
 | true,.fn,_,_=>rfl
 | true,.unit,_,_=>rfl
 | true,.ptr _,_,_=>rfl
 | true,.arr _ _,_,_=>rfl
 | false,.int _,_,_=>rfl
 | false,.str,_,_=>rfl
 | false,.bool,_,_=>rfl
 | false,.fn,_,_=>rfl
 | false,.unit,_,_=>rfl
 | false,.ptr _,_,_=>rfl
 | false,.arr _ _,_,_=>rfl
def hl_ {α:Type} (f:α→Nat→Option Nat):List α→Nat→Option Nat
 | [],k=>some k
 | x :: xs,k=>(f x k).bind fun k=>hl_ f xs k
def hd_ (mt:Nat→List UInt8):Bool→(t:Ty)→t.D→Nat→Option Nat
 | true,.int _,x,k=>cond (eqI x (k:Int)) (some (k+1)) none
 | true,.str,x,k=>cond (eqS x (mt k)) (some (k+1)) none
 | _,.sl t,x,k=>hl_ (hd_ mt true t) x k
 | c,.pair a b,x,k=>(hd_ mt c a x.1 k).bind fun k=>hd_ mt c b x.2 k
 | _,_,_,k=>some k
theorem A6T {α:Type} {f:α→Nat→α × Nat} {g:α→Nat→Option Nat} (h:∀ x k,g (f x k).1 k=some (f x k).2):∀ (l:List α) (k:Nat),hl_ g (mapM f l k).1 k=some (mapM f l k).2
 | [],k=>rfl
 | x :: xs,k=>by
  show (g (f x k).1 k).bind _=_
  rw[h x k]
  exact A6T h xs _
theorem A6y (mt:Nat→List UInt8):∀ (c:Bool) (t:Ty) (x:t.D) (k:Nat),hd_ mt c t (mk_ mt c t x k).1 k=some (mk_ mt c t x k).2
 | true,.int _,_,k=>by
  show cond (eqI (k:Int) (k:Int)) (some (k+1)) none=some (k+1)
  simp[eqI]
 | true,.str,_,k=>by
  show cond (eqS (mt k) (mt k)) (some (k+1)) none=some (k+1)
  simp[eqS]
 | true,.sl t,x,k=>A6T (A6y mt true t) x k
 | false,.sl t,x,k=>A6T (A6y mt true t) x k
 | c,.pair a b,x,k=>by
  have e:hd_ mt c (.pair a b) (mk_ mt c (.pair a b) x k).1 k=(hd_ mt c a (mk_ mt c a x.1 k).1 k).bind fun k'=>hd_ mt c b (mk_ mt c b x.2 (mk_ mt c a x.1 k).2).1 k':=by cases c<;>rfl
  rw[e,A6y mt c a]
  show hd_ mt c b _ _=_
  rw[A6y mt c b]
  cases c<;>rfl
 | true,.bool,_,_=>rfl
 | true,.fn,_,_=>rfl
 | true,.unit,_,_=>rfl
 | true,.ptr _,_,_=>rfl
 | true,.arr _ _,_,_=>rfl
 | false,.int _,_,_=>rfl
 | false,.str,_,_=>rfl
 | false,.bool,_,_=>rfl
 | false,.fn,_,_=>rfl
 | false,.unit,_,_=>rfl
 | false,.ptr _,_,_=>rfl
 | false,.arr _ _,_,_=>rfl
theorem A8w {α:Type} {l:List α} {i:Nat} {a:α} (h:i < l.length):(l.set i a).take (i+1)=l.take i++[a]:=by
 rw[AM,List.take_set_of_le (Ao _),Bs]
 simp[h]
theorem jK {α:Type} (F:List α→Int→Int→Option (Int × (List α × Unit))) (len:Nat) (d:α) (g:α→Nat→α × Nat) (m:α→Nat) (B:Nat) (hg:∀ x k,(g x k).2=k+m x) (Q:α→Prop)
  (stop:∀ (w:List α) (k:Int),w.length=len→F w k (len:Nat)=some (k,(w,())))
  (step:∀ (w:List α) (k i:Nat),w.length=len→i < len→k+m (w.getD i d)≤B→Q (w.getD i d)→F w k i=F (w.set i (g (w.getD i d) k).1) ((g (w.getD i d) k).2:Nat) ((i+1:Nat):Int)):
  ∀ (n i:Nat) (w:List α) (k:Nat),len - i=n→i≤len→w.length=len→k+((w.drop i).map m).sum≤B→(∀ y ∈ w.drop i,Q y) →
   F w k i=some ((((mapM g (w.drop i) k).2:Nat):Int),(w.take i++(mapM g (w.drop i) k).1,()))
 | 0,i,w,k,hn,hi,hl,hb,hQ=>by
  have:i=len:=by omega
  subst this
  rw[stop w k hl,AN (by omega),Bh (by omega)]
  simp[mapM]
 | n+1,i,w,k,hn,hi,hl,hb,hQ=>by
  have hlt:i < w.length:=by omega
  rw[oM (d:=d) hlt] at hQ
  rw[oM (d:=d) hlt,Ag,AF] at hb
  rw[step w k i hl (by omega) (by omega) (hQ _ (List.mem_cons_self ..))]
  have e:(w.set i (g (w.getD i d) k).1).drop (i+1)=w.drop (i+1):=by
   rw[List.drop_set_of_lt (by omega)]
  rw[jK F len d g m B hg Q stop step n (i+1) _ _ (by omega) (by omega) (by simpa using hl) (by rw[e,hg];omega) (by rw[e];exact fun y hy=>hQ y (List.mem_cons_of_mem _ hy)),e,oM (d:=d) hlt,A8w hlt]
  simp[mapM]
theorem jF {α:Type} (F:Int→Int→Option (Int × Unit)) (v:List α) (d:α) (g:α→Nat→Option Nat) (m:α→Nat) (B:Nat) (hg:∀ x k k',g x k=some k'→k'=k+m x)
  (stop:∀ k,F k (v.length:Nat)=some (k,()))
  (step:∀ (k i k':Nat),i < v.length→g (v.getD i d) k=some k'→k'≤B→F k i=F k' ((i+1:Nat):Int)):
  ∀ (n i k k':Nat),v.length - i=n→i≤v.length→k'≤B→hl_ g (v.drop i) k=some k'→F k i=some ((k':Int),())
 | 0,i,k,k',hn,hi,hb,hh=>by
  have:i=v.length:=by omega
  subst this
  rw[AN (by omega)] at hh
  rw[stop]
  cases hh;rfl
 | n+1,i,k,k',hn,hi,hb,hh=>by
  have hlt:i < v.length:=by omega
  rw[oM (d:=d) hlt] at hh
  obtain⟨k1,h1,h2⟩:=Ac.1 hh
  have hle:k1≤k':=by
   clear hh h1 hn stop step hb hlt hi
   generalize v.drop (i+1)=l at h2
   induction l generalizing k1 with
   | nil=>cases h2;exact Ao _
   | cons x xs ih=>
    obtain⟨k2,h3,h4⟩:=Ac.1 h2
    have:=hg _ _ _ h3
    have:=ih k2 h4
    omega
  rw[step k i k1 hlt h1 (by omega)]
  exact jF F v d g m B hg stop step n (i+1) k1 k' (by omega) (by omega) hb h2
theorem A54 {α:Type} {g:α→Nat→Option Nat} {m:α→Nat} (h:∀ x k k',g x k=some k'→k'=k+m x):∀ (l:List α) (k k':Nat),hl_ g l k=some k'→k'=k+(l.map m).sum
 | [],k,k',e=>by cases e;rfl
 | x :: xs,k,k',e=>by
  obtain⟨k1,h1,h2⟩:=Ac.1 e
  have:=h _ _ _ h1
  have:=A54 h xs k1 k' h2
  rw[Ag,AF];omega
theorem rI (mt:Nat→List UInt8):∀ (c:Bool) (t:Ty) (x:t.D) (k k':Nat),hd_ mt c t x k=some k'→k'=k+nmk c t x
 | true,.int _,x,k,k',h=>by
  have h:cond (eqI x (k:Int)) (some (k+1)) none=some k':=h
  show k'=k+1
  cases hc:eqI x (k:Int)<;>rw[hc] at h<;>cases h
  rfl
 | true,.str,x,k,k',h=>by
  have h:cond (eqS x (mt k)) (some (k+1)) none=some k':=h
  show k'=k+1
  cases hc:eqS x (mt k)<;>rw[hc] at h<;>cases h
  rfl
 | true,.sl t,x,k,k',h=>A54 (rI mt true t) x k k' h
 | false,.sl t,x,k,k',h=>A54 (rI mt true t) x k k' h
 | c,.pair a b,x,k,k',h=>by
  have e:hd_ mt c (.pair a b) x k=(hd_ mt c a x.1 k).bind fun k=>hd_ mt c b x.2 k:=by cases c<;>rfl
  have e':nmk c (.pair a b) x=nmk c a x.1+nmk c b x.2:=by cases c<;>rfl
  rw[e] at h
  obtain⟨k1,h1,h2⟩:=Ac.1 h
  have:=rI mt c a _ _ _ h1
  have:=rI mt c b _ _ _ h2
  omega
 | true,.bool,_,_,_,h=>by cases h;rfl
 | true,.fn,_,_,_,h=>by cases h;rfl
 | true,.unit,_,_,_,h=>by cases h;rfl
 | true,.ptr _,_,_,_,h=>by cases h;rfl
 | true,.arr _ _,_,_,_,h=>by cases h;rfl
 | false,.int _,_,_,_,h=>by cases h;rfl
 | false,.str,_,_,_,h=>by cases h;rfl
 | false,.bool,_,_,_,h=>by cases h;rfl
 | false,.fn,_,_,_,h=>by cases h;rfl
 | false,.unit,_,_,_,h=>by cases h;rfl
 | false,.ptr _,_,_,_,h=>by cases h;rfl
 | false,.arr _ _,_,_,_,h=>by cases h;rfl
def aH:Ty→Nat
 | .int _=>1
 | .str=>1
 | .pair a b=>aH a+aH b
 | _=>0
def A85:Ty→Nat
 | .sl t=>max (aH t) (A85 t)
 | .pair a b=>max (A85 a) (A85 b)
 | _=>0
theorem A5G {α:Type} {f g:α→Nat} {B C:Nat}:∀ (l:List α),(∀ x,f x≤C+B * g x)→C≤B→(l.map f).sum≤B * (l.length+(l.map g).sum)
 | [],_,_=>by simp
 | x :: xs,h,hc=>by
  have h1:=h x
  have h2:=A5G xs h hc
  simp only[Ag,AF,AS]
  have:B * (xs.length+1+(g x+(xs.map g).sum))=B+B * g x+B * (xs.length+(xs.map g).sum):=by
   simp only[Nat.mul_add];omega
  omega
theorem AM3 (B:Nat):∀ (c:Bool) (t:Ty) (x:t.D),A85 t≤B→nmk c t x≤(if c then aH t else 0)+B * cnt t x
 | true,.int _,_,_=>by show 1≤1+_;omega
 | true,.str,_,_=>by show 1≤1+_;omega
 | true,.sl t,x,h=>by
  have h:max (aH t) (A85 t)≤B:=h
  have:=A5G (f:=nmk true t) (g:=cnt t) x (fun y=>AM3 B true t y (by omega)) (B:=B) (C:=aH t) (by omega)
  show (AV (nmk true t) x).sum≤0+B * (Au x+(AV (cnt t) x).sum)
  omega
 | false,.sl t,x,h=>by
  have h:max (aH t) (A85 t)≤B:=h
  have:=A5G (f:=nmk true t) (g:=cnt t) x (fun y=>AM3 B true t y (by omega)) (B:=B) (C:=aH t) (by omega)
  show (AV (nmk true t) x).sum≤0+B * (Au x+(AV (cnt t) x).sum)
  omega
 | c,.pair a b,x,h=>by
  have h:max (A85 a) (A85 b)≤B:=h
  have h1:=AM3 B c a x.1 (by omega)
  have h2:=AM3 B c b x.2 (by omega)
  have e':nmk c (.pair a b) x=nmk c a x.1+nmk c b x.2:=by cases c<;>rfl
  have e:cnt (.pair a b) x=cnt a x.1+cnt b x.2:=rfl
  have e2:aH (.pair a b)=aH a+aH b:=rfl
  rw[e',e,e2,Nat.mul_add]
  cases c
  ·simp only[Aq (show ¬ (false=true) by decide)] at *;omega
  ·simp only[AI] at *;omega
 | true,.bool,_,_=>Al _
 | true,.fn,_,_=>Al _
 | true,.unit,_,_=>Al _
 | true,.ptr _,_,_=>Al _
 | true,.arr _ _,_,_=>Al _
 | false,.int _,_,_=>Al _
 | false,.str,_,_=>Al _
 | false,.bool,_,_=>Al _
 | false,.fn,_,_=>Al _
 | false,.unit,_,_=>Al _
 | false,.ptr _,_,_=>Al _
 | false,.arr _ _,_,_=>Al _
def wV:(t:Ty)→t.D→Nat
 | .sl t,x=>Au x+(AV (wV t) x).sum
 | .pair a b,x=>wV a x.1+wV b x.2
 | _,_=>0
theorem A7D {α:Type} {f g:α→Nat}:∀ (l:List α),(∀ x,f x≤g x)→(l.map f).sum≤(l.map g).sum
 | [],_=>Ao _
 | x :: xs,h=>by
  have:=h x
  have:=A7D xs h
  simp only[Ag,AF];omega
theorem AW8:∀ (t:Ty) (x:t.D),wV t x≤cnt t x
 | .sl t,x=>by
  have:=A7D (f:=wV t) (g:=cnt t) x (AW8 t)
  show Au x+_≤Au x+_
  omega
 | .pair a b,x=>by
  have:=AW8 a x.1
  have:=AW8 b x.2
  show wV a x.1+wV b x.2≤cnt a x.1+cnt b x.2
  omega
 | .int _,_=>Al _
 | .bool,_=>Al _
 | .str,_=>Al _
 | .fn,_=>Al _
 | .unit,_=>Al _
 | .ptr _,_=>Al _
 | .arr _ _,_=>Al _
theorem Ac5 {α:Type} {f:α→Nat→α × Nat} {m:α→Nat} (h:∀ x k,m (f x k).1=m x):∀ (l:List α) (k:Nat),(mapM f l k).1.length=l.length∧((mapM f l k).1.map m).sum=(l.map m).sum
 | [],_=>⟨rfl,rfl⟩
 | x :: xs,k=>by
  obtain⟨h1,h2⟩:=Ac5 h xs (f x k).2
  refine⟨Bp (·+1) h1,?_⟩
  show m (f x k).1+((mapM f xs (f x k).2).1.map m).sum=_
  rw[h,h2];rfl
theorem Ad1 (mt:Nat→List UInt8):∀ (c:Bool) (t:Ty) (x:t.D) (k:Nat),wV t (mk_ mt c t x k).1=wV t x
 | true,.sl t,x,k=>by
  obtain⟨h1,h2⟩:=Ac5 (m:=wV t) (Ad1 mt true t) x k
  show Au (mapM (mk_ mt true t) x k).1+_=Au x+_
  exact (congr (Bp HAdd.hAdd h1) h2)
 | false,.sl t,x,k=>by
  obtain⟨h1,h2⟩:=Ac5 (m:=wV t) (Ad1 mt true t) x k
  show Au (mapM (mk_ mt true t) x k).1+_=Au x+_
  exact (congr (Bp HAdd.hAdd h1) h2)
 | c,.pair a b,x,k=>by
  have h1:=Ad1 mt c a x.1 k
  have h2:=Ad1 mt c b x.2 (mk_ mt c a x.1 k).2
  have e:wV (.pair a b) (mk_ mt c (.pair a b) x k).1=wV a (mk_ mt c a x.1 k).1+wV b (mk_ mt c b x.2 (mk_ mt c a x.1 k).2).1:=by cases c<;>rfl
  rw[e,h1,h2];rfl
 | true,.int _,_,_=>rfl
 | true,.str,_,_=>rfl
 | true,.bool,_,_=>rfl
 | true,.fn,_,_=>rfl
 | true,.unit,_,_=>rfl
 | true,.ptr _,_,_=>rfl
 | true,.arr _ _,_,_=>rfl
 | false,.int _,_,_=>rfl
 | false,.str,_,_=>rfl
 | false,.bool,_,_=>rfl
 | false,.fn,_,_=>rfl
 | false,.unit,_,_=>rfl
 | false,.ptr _,_,_=>rfl
 | false,.arr _ _,_,_=>rfl
theorem A17 {α:Type} {f:α→Nat}:∀ {l:List α} {y:α},y ∈ l→f y≤(l.map f).sum
 | x :: xs,y,h=>by
  simp only[Ag,AF]
  rcases Ai.1 h with e|e
  ·subst e;omega
  ·have:=A17 (f:=f) e
   omega
theorem AQ5 {t:Ty} {x:List t.D} {i:Nat} {d:t.D} (h:i < x.length):cnt t (x.getD i d)≤cnt (.sl t) x:=by
 have:=A17 (f:=cnt t) (pZ (d:=d) h)
 show _≤Au x+(AV (cnt t) x).sum
 omega
theorem cE {t:Ty} {x:List t.D} {y:t.D} (h:y ∈ x):wV t y≤wV (.sl t) x:=by
 have:=A17 (f:=wV t) h
 show _≤Au x+(AV (wV t) x).sum
 omega
theorem gO {t:Ty} {x:List t.D} {i:Nat} {d:t.D} (h:i < x.length):wV t (x.getD i d)≤wV (.sl t) x:=cE (pZ (d:=d) h)
theorem A0y (k:Nat):decide ((k:Int) < 0)=false:=AG (by omega)
theorem kJ {α β:Type} {b:Bool} {a:α} {f:α→Option β} {c:β} (h:(cond b (some a) none).bind f=some c):b=true∧f a=some c:=by
 cases b with
 | true=>exact⟨rfl,h⟩
 | false=>cases h
theorem At8 {α:Type} {b:Bool} {a c:α} (h:cond b (some a) none=some c):b=true∧some a=some c:=by
 cases b with
 | true=>exact⟨rfl,h⟩
 | false=>cases h
def BD8 {α:Type} (p:α→Bool):List α→Nat→Int
 | [],_=>-1
 | x :: xs,i=>cond (p x) (i:Int) (BD8 p xs (i+1))
theorem An6 {α:Type} (p:α→Bool):∀ (l:List α) (i:Nat),decide (0≤BD8 p l i)=l.any p
 | [],_=>rfl
 | x :: xs,i=>by
  show decide (0≤cond (p x) (i:Int) (BD8 p xs (i+1)))=(p x || xs.any p)
  cases p x with
  | true=>exact AZ (by simp only[AD];omega)
  | false=>simp only[A6,B3];exact An6 p xs (i+1)
theorem A1C {α:Type} (F:Int→Int→Option (Int × Unit)) (v:List α) (d:α) (p:α→Bool)
  (stop:∀ a,F a (v.length:Nat)=some (-1,()))
  (step:∀ (a:Int) (i:Nat),i < v.length→F a i=cond (p (v.getD i d)) (some ((i:Int),())) (F i ((i+1:Nat):Int))):
  ∀ (n i:Nat) (a:Int),v.length - i=n→i≤v.length→F a i=some (BD8 p (v.drop i) i,())
 | 0,i,a,hn,hi=>by
  have:i=v.length:=by omega
  subst this
  rw[stop,AN (Ao _)];rfl
 | n+1,i,a,hn,hi=>by
  rw[step a i (by omega),oM (d:=d) (by omega),A1C F v d p stop step n (i+1) i (by omega) (by omega)]
  show _=some (cond (p (v.getD i d)) (i:Int) (BD8 p (v.drop (i+1)) (i+1)),())
  cases p (v.getD i d)<;>rfl
theorem A6e {α:Type} (p:α→Bool) (l:List α):(!l.any fun x=>!p x)=l.all p:=by
 simp[List.all_eq_not_any_not]
theorem gs {α:Type} {l:List α} {i:Nat} {a d:α} (h:i < l.length):(l.set i a).getD i d=a:=by
 rw[AA,Bs];simp[h]
theorem ss {α:Type} {l:List α} {i:Nat} {a b:α}:(l.set i a).set i b=l.set i b:=List.set_set ..
theorem aF {α β:Type} {o:Option α} {a:α} {f:α→Option β} {r:Option β} (h:o=some a) (h2:f a=r):o.bind f=r:=by rw[h];exact h2
end Go.Rf

end
