/- What the program computes, in plain words: part 6. No condition. -/
import Derived.Test.YtcikhcfofnlegaaGreatHol2
import Derived.Test.YtcikhcfofnlegaaGreatHol1
open Option renaming bind_some->Aa
open List renaming replicate->Ab,getD_eq_getElem?_getD->Ag,length_append->Ai,length_cons->Ak,length_nil->Ao,length_map->As,length_drop->Au,length_replicate->Aw,append_assoc->Az,length_take->A2,drop_eq_nil_of_le->A4,append_nil->A5,take_length->A9,map->AB,getElem?_set->AC,getElem?_append_right->AD,getElem?_drop->AH,drop_zero->AI,drop_length->AM,all_cons->AN,map_append->AQ,replicate_succ->AS,getElem?_append_left->AW,getElem?_map->AX,getElem?_eq_getElem->AY,map_map->Bb,drop_eq_nil_iff->Bl,getD_cons_zero->Bn,getD_cons_succ->Bo,map_congr_left->Bp,replicate_zero->Bq,mem_cons->Br,cons_append->Bz,not_mem_nil->B1,length_set->B5
open Go.IntKind renaming wrap->Ac,bits->Al
open _root_ renaming decide_eq_true->Ad,decide_eq_false->Ae,cond_true->Af,cond_false->Ah,decide_true->A0,if_pos->A1,if_neg->A3,congrArg->AE,decide_eq_decide->AL
open Nat renaming le_refl->Aj,zero_le->An,min_eq_left->Aq,lt_of_lt_of_le->Ar,mod_eq_of_lt->At,mod_lt->Av,pow_le_pow_right->A6,div_div_eq_div_mul->AA,pow_zero->AF,mul_mod_mul_right->AK,div_one->AO,pow_add->AP,div_le_self->AR,le_trans->AT,two_pow_add_eq_or_of_lt->AU,mod_mul_right_div_self->AV,ble->A',ble_eq->Ba,zero_add->Bc,mul_comm->Be,sub_self->Bf,mod_add_mod->Bg,div_add_mod->Bh,mod_mul_right_mod->Bi,mul_le_mul->Bk,mul_le_mul_left->Bm,one_le_two_pow->Bu,lt_of_le_of_lt->Bv,and_one_is_mod->Bw,lt_trans->Bx,min_le_right->B2,add_mod_mod->B4,two_pow_pos->B6,blt->B8
open Int renaming toNat->Am,tmod->A7,fdiv->AZ,tdiv->By,le_refl->B3
open Bool renaming not_true->Ap,not_false->A8,true_and->AG,and_true->Bs,and_comm->B7
open UInt8 renaming ofNat->Ax,toNat->Bj,toNat_ofNat'->Bt
open Min renaming min->Ay
open Eq renaming trans->AJ
set_option linter.unusedVariables false
set_option linter.unusedSimpArgs false
section
namespace Go.Rf.S
set_option maxRecDepth 100000
abbrev HS:Type:=List Int × (List UInt8 × (Int × Unit))
theorem B2f (v0:HS) (t:List UInt8) (ht:64≤t.length) (v2:List Int):
  xU R L v0 t v2 (cl (Ab 64 0)) 0=yD R L v0 v2 (cl (vM (stA t) 16 0 (Ab 64 0))) 16∧Wd 64 (vM (stA t) 16 0 (Ab 64 0)):=
 yX (fun (w:List Nat) i=>xU R L v0 t v2 (cl w) i) (stA t) (fun _ w=>Wd 64 w) 16 (fun w=>yD R L v0 v2 (cl w) 16)
  (fun w hw=>by
   have hq:xU R L v0 t v2 (cl w) (16:Nat)=_:=round (by kernel_rfl) (cT R L v0 t v2 (cl w) (16:Nat))
   show xU R L v0 t v2 (cl w) (16:Nat)=_
   rw[hq];rfl)
  (fun w i hi hw=>by
   have hq:xU R L v0 t v2 (cl w) (i:Nat)=_:=round (by kernel_rfl) (cT R L v0 t v2 (cl w) (i:Nat))
   refine⟨?_,B2q hw⟩
   show xU R L v0 t v2 (cl w) (i:Nat)=_
   have e4:Ac .i64 ((4:Int) * (i:Int))=((4 * i:Nat):Int):=by rw[zI (by omega) (by omega)];omega
   have e1:Ac .i64 (((4 * i:Nat):Int)+1)=((4 * i+1:Nat):Int):=A1h 1 (by omega)
   have e2:Ac .i64 (((4 * i:Nat):Int)+2)=((4 * i+2:Nat):Int):=A1h 2 (by omega)
   have e3:Ac .i64 (((4 * i:Nat):Int)+3)=((4 * i+3:Nat):Int):=A1h 3 (by omega)
   rw[hq,show decide ((i:Int) < 16)=true from Ad (by omega),e4,e1,e2,e3,zB (by omega)]
   simp only[nn,tn,Af,zO (show 4 * i < t.length by omega),zO (show 4 * i+1 < t.length by omega),zO (show 4 * i+2 < t.length by omega),zO (show 4 * i+3 < t.length by omega)]
   rw[Bu7 .u32 (by decide) (by decide),zO (show i < 64 by omega),rE]
   rfl)
  (Ab 64 0) (Wd.rep 64)
theorem B0T (a b c d:Nat):(((a+b) % 4294967296+c) % 4294967296+d) % 4294967296=(a+b+c+d) % 4294967296:=by simp only[Bg]
theorem B19 (v0:HS) (v2:List Int) (w0:List Nat) (h0:Wd 64 w0):
  yD R L v0 v2 (cl w0) 16=yG R L v0 v2 (cl (vM stB 48 0 w0)) (Ab 8 0) v0.1 0∧Wd 64 (vM stB 48 0 w0):=by
 have h:yD R L v0 v2 (cl w0) (0+16)=yG R L v0 v2 (cl (vM stB 48 0 w0)) (Ab 8 0) v0.1 0∧Wd 64 (vM stB 48 0 w0):=
  yX (fun (w:List Nat) i=>yD R L v0 v2 (cl w) (i+16)) stB (fun _ w=>Wd 64 w) 48 (fun w=>yG R L v0 v2 (cl w) (Ab 8 0) v0.1 0)
  (fun w hw=>by
   have hq:yD R L v0 v2 (cl w) (64:Nat)=_:=round (by kernel_rfl) (cY R L v0 v2 (cl w) (64:Nat))
   show yD R L v0 v2 (cl w) (64:Nat)=_
   rw[hq,show decide (((64:Nat):Int) < 64)=false from by decide];rfl)
  (fun w i hi hw=>by
   have hq:yD R L v0 v2 (cl w) ((i+16:Nat):Int)=_:=round (by kernel_rfl) (cY R L v0 v2 (cl w) ((i+16:Nat):Int))
   refine⟨?_,B17 hw⟩
   show yD R L v0 v2 (cl w) ((i:Int)+16)=yD R L v0 v2 (cl (stB i w)) (((i+1:Nat):Int)+16)
   rw[show (i:Int)+16=((i+16:Nat):Int) by omega,show ((i+1:Nat):Int)+16=((i+16+1:Nat):Int) by omega]
   have e15:Ac .i64 (((i+16:Nat):Int) - 15)=((i+1:Nat):Int):=BS8 (c:=15) (by omega) (by omega)
   have e2:Ac .i64 (((i+16:Nat):Int) - 2)=((i+14:Nat):Int):=BS8 (c:=2) (by omega) (by omega)
   have e16:Ac .i64 (((i+16:Nat):Int) - 16)=((i:Nat):Int):=BS8 (c:=16) (by omega) (by omega)
   have e7:Ac .i64 (((i+16:Nat):Int) - 7)=((i+9:Nat):Int):=BS8 (c:=7) (by omega) (by omega)
   have a1:=hw.g (i+1);have a14:=hw.g (i+14);have a0:=hw.g i;have a9:=hw.g (i+9)
   rw[hq,show decide (((i+16:Nat):Int) < 64)=true from Ad (by omega),e15,e2,e16,e7,zB (by omega)]
   simp only[nn,tn,Af,zO (show i+1 < 64 by omega),zO (show i+14 < 64 by omega),zO (show i < 64 by omega),zO (show i+9 < 64 by omega),zO (show i+16 < 64 by omega),yT]
   rw[T7 a1,T18 a1,T17 a14,T19 a14]
   simp only[Aa]
   rw[g0C .u32 (by decide) (by decide) a1,g1C .u32 (by decide) (by decide) a14,Bw1,Bw1,Bw1,B0T,rE]
   rfl)
  w0 h0
 rw[Int.zero_add] at h
 exact h
theorem B37 {x:List Nat} (h:x.length=8):x=[x.getD 0 0,x.getD 1 0,x.getD 2 0,x.getD 3 0,x.getD 4 0,x.getD 5 0,x.getD 6 0,x.getD 7 0]:=by
 match x,h with
 | [a,b,c,d,e,f,g,i],_=>rfl
theorem B26 (v0:HS) (v2 v6:List Int) (h:List Nat) (hh:Wd 8 h):
  yG R L v0 v2 v6 (Ab 8 0) (cl h) 0=yR R L v0 v2 v6 (cl h) 0:=by
 have:=(yX (fun (w:List Nat) i=>yG R L v0 v2 v6 (cl w) (cl h) i) (fun i w=>w.set i (h.getD i 0)) (fun _ w=>True) 8 (fun w=>yR R L v0 v2 v6 (cl w) 0)
  (fun w hw=>by
   have hq:yG R L v0 v2 v6 (cl w) (cl h) (8:Nat)=_:=round (by kernel_rfl) (cV R L v0 v2 v6 (cl w) (cl h) (8:Nat))
   show yG R L v0 v2 v6 (cl w) (cl h) (8:Nat)=_
   rw[hq];rfl)
  (fun w i hi hw=>by
   have hq:yG R L v0 v2 v6 (cl w) (cl h) (i:Nat)=_:=round (by kernel_rfl) (cV R L v0 v2 v6 (cl w) (cl h) (i:Nat))
   refine⟨?_,trivial⟩
   show yG R L v0 v2 v6 (cl w) (cl h) (i:Nat)=_
   rw[hq,show decide ((i:Int) < 8)=true from Ad (by omega),zB (by omega)]
   simp only[nn,tn,Af,zO (show i < 8 from hi),yT]
   rw[Ak0 (k:=.u32) (hh.g i),rE])
  (Ab 8 0) trivial).1
 refine this.trans ?_
 rw[B37 hh.1]
 rfl
theorem B0L (h s c k w a m:Nat):(((((h+s) % 4294967296+c) % 4294967296+k) % 4294967296+w) % 4294967296+(a+m) % 4294967296) % 4294967296=(h+s+c+k+w+a+m) % 4294967296:=by
 simp only[Bg,B4,Nat.add_assoc]
theorem Bs7 (d h s c k w:Nat):(d+((((h+s) % 4294967296+c) % 4294967296+k) % 4294967296+w) % 4294967296) % 4294967296=(d+(h+s+c+k+w)) % 4294967296:=by
 simp only[Bg,B4]
theorem B2Q (v0:HS) (w v00:List Nat) (hw:Wd 64 w) (h0:Wd 8 v00):
  yR R L v0 (cl kT) (cl w) (cl v00) 0=yV R L v0 (cl (vM (stC kT w) 64 0 v00)) 0∧Wd 8 (vM (stC kT w) 64 0 v00):=
 yX (fun (v:List Nat) i=>yR R L v0 (cl kT) (cl w) (cl v) i) (stC kT w) (fun _ v=>Wd 8 v) 64 (fun v=>yV R L v0 (cl v) 0)
  (fun v hv=>by
   have hq:yR R L v0 (cl kT) (cl w) (cl v) (64:Nat)=_:=round (by kernel_rfl) (cW R L v0 (cl kT) (cl w) (cl v) (64:Nat))
   show yR R L v0 (cl kT) (cl w) (cl v) (64:Nat)=_
   rw[hq];rfl)
  (fun v i hi hv=>by
   have hq:yR R L v0 (cl kT) (cl w) (cl v) (i:Nat)=_:=round (by kernel_rfl) (cW R L v0 (cl kT) (cl w) (cl v) (i:Nat))
   refine⟨?_,B2Z hv⟩
   show yR R L v0 (cl kT) (cl w) (cl v) (i:Nat)=_
   have a0:=hv.g 0;have a1:=hv.g 1;have a2:=hv.g 2;have a3:=hv.g 3;have a4:=hv.g 4;have a5:=hv.g 5;have a6:=hv.g 6;have a7:=hv.g 7
   rw[hq,show decide ((i:Int) < 64)=true from Ad (by omega),zB (by omega),show ((2:Int) ^ Al .u32 - 1)=4294967295 from by decide]
   simp only[nn,tn,Af,zO (show i < 64 by omega),yT,show Am 0=0 from rfl,show Am 1=1 from rfl,show Am 2=2 from rfl,show Am 3=3 from rfl,show Am 4=4 from rfl,show Am 5=5 from rfl,show Am 6=6 from rfl,show Am 7=7 from rfl]
   rw[T6 a4,T11 a4,T25 a4,T2 a0,T13 a0,T22 a0]
   simp only[Aa]
   rw[S1C .u32 (by decide) a4,S0C .u32 (by decide) a0,chC .u32 (by decide) a4 a5 a6,mjC .u32 (by decide) a0 a1 a2]
   simp only[Bw1]
   rw[B0L,Bs7]
   rfl)
  v00 h0
theorem B12 (rest:List UInt8 × (Int × Unit)) (v h0:List Nat) (hv:Wd 8 v) (hh:Wd 8 h0):
  yV R L (cl h0,rest) (cl v) 0=some ((cl (vM (stD v) 8 0 h0),rest),())∧Wd 8 (vM (stD v) 8 0 h0):=
 yX (fun (h:List Nat) i=>yV R L (cl h,rest) (cl v) i) (stD v) (fun _ h=>Wd 8 h) 8 (fun h=>some ((cl h,rest),()))
  (fun h _=>by
   have hq:yV R L (cl h,rest) (cl v) (8:Nat)=_:=round (by kernel_rfl) (cQ R L (cl h,rest) (cl v) (8:Nat))
   show yV R L (cl h,rest) (cl v) (8:Nat)=_
   rw[hq];rfl)
  (fun h i hi hh=>by
   have hq:yV R L (cl h,rest) (cl v) (i:Nat)=_:=round (by kernel_rfl) (cQ R L (cl h,rest) (cl v) (i:Nat))
   refine⟨?_,B0F hh⟩
   show yV R L (cl h,rest) (cl v) (i:Nat)=_
   have a:=hh.g i;have b:=hv.g i
   rw[hq,show decide ((i:Int) < 8)=true from Ad (by omega),zB (by omega)]
   simp only[nn,tn,Af,zO (show i < 8 from hi),yT]
   rw[Ak0 (k:=.u32) a,Bw1,qP (by omega),rE]
   rfl)
  h0 hh
theorem AF2 (t:List UInt8) {i n:Nat} (h:i < n):(t.take n).getD i 0=t.getD i 0:=by
 rw[Ag,Ag,List.getElem?_take,A1 h]
theorem A0n {α:Type} {f g:Nat→α→α}:∀ (n i:Nat) (a:α),(∀ j b,i≤j→j < i+n→f j b=g j b)→vM f n i a=vM g n i a
 | 0,_,_,_=>rfl
 | n+1,i,a,h=>by
  show vM f n (i+1) (f i a)=vM g n (i+1) (g i a)
  rw[h i a (Aj _) (by omega),A0n n (i+1) _ (fun j b h1 h2=>h j b (by omega) (by omega))]
theorem Bd8 (k h:List Nat) (t:List UInt8):BR4 k h (t.take 64)=BR4 k h t:=by
 have e:vM (stA (t.take 64)) 16 0 (Ab 64 0)=vM (stA t) 16 0 (Ab 64 0):=A0n 16 0 _ fun j b h1 h2=>by
  unfold stA wBE bt
  rw[AF2 t (by omega),AF2 t (by omega),AF2 t (by omega),AF2 t (by omega)]
 unfold BR4 B4E
 rw[e]
theorem B0d (h:List Nat) (rest:List UInt8 × (Int × Unit)) (t:List UInt8) (hh:Wd 8 h) (ht:64≤t.length):
  lR R (cl h,rest) t (cl kT)=some ((cl (BR4 kT h t),rest),()):=by
 have hq:lR R (cl h,rest) t (cl kT)=_:=call (Aj6 R L (cl h,rest) t (cl kT))
 obtain⟨a1,a2⟩:=B2f (cl h,rest) t ht (cl kT)
 obtain⟨b1,b2⟩:=B19 (cl h,rest) (cl kT) _ a2
 obtain⟨c1,c2⟩:=B2Q (cl h,rest) _ h b2 hh
 obtain⟨d1,d2⟩:=B12 rest _ h c2 hh
 exact hq.trans (a1.trans (b1.trans ((B26 _ _ _ h hh).trans (c1.trans d1))))
end Go.Rf.S

end
section
namespace Go.Rf.S
set_option maxRecDepth 100000
theorem Bc7 {k h:List Nat} {t:List UInt8} (hh:Wd 8 h):Wd 8 (BR4 k h t):=by
 have:∀ (v:List Nat) (n i:Nat) (x:List Nat),Wd 8 x→Wd 8 (vM (stD v) n i x):=by
  intro v n
  induction n with
  | zero=>intro i x hx;exact hx
  | succ n ih=>intro i x hx;exact ih (i+1) _ (B0F hx)
 exact this _ _ _ _ hh
theorem Bx7 {k:List Nat}:∀ {n:Nat} {h:List Nat} {t:List UInt8},Wd 8 h→t.length < 64 * (n+1)→Wd 8 (BP6 k n h t).1∧(BP6 k n h t).2.length=t.length % 64
 | 0,h,t,hh,ht=>⟨hh,by show t.length=_;omega⟩
 | n+1,h,t,hh,ht=>by
  unfold BP6
  split
  ·rename_i h64
   have:=Bx7 (k:=k) (n:=n) (h:=BR4 k h t) (t:=t.drop 64) (Bc7 hh) (by rw[Au];omega)
   refine⟨this.1,this.2.trans ?_⟩
   rw[Au]
   omega
  ·exact⟨hh,by show t.length=_;omega⟩
theorem BE8 {a b:Nat} (h:a≤b):A' a b=true:=by rw[Ba];exact h
theorem BS3 (v4:HS) (m:Int):∀ (n:Nat) (h:List Nat) (t:List UInt8),Wd 8 h→t.length < 64 * (n+1) →
  nC R L (cl h,(t,(m,()))) v4=some ((cl (BP6 kT n h t).1,((BP6 kT n h t).2,(m,()))),()):=by
 have stop:∀ (h:List Nat) (t:List UInt8),t.length < 64→nC R L (cl h,(t,(m,()))) v4=some ((cl h,(t,(m,()))),()):=by
  intro h t ht
  have hq:nC R L (cl h,(t,(m,()))) v4=_:=round (by kernel_rfl) (Aj4 R L (cl h,(t,(m,()))) v4)
  rw[hq,Ae (show ¬ ((64:Int)≤((t.length:Nat):Int)) by omega)]
  rfl
 intro n
 induction n with
 | zero=>intro h t hh ht;exact stop h t (by omega)
 | succ n ih=>
  intro h t hh ht
  unfold BP6
  split
  ·rename_i h64
   have hq:nC R L (cl h,(t,(m,()))) v4=_:=round (by kernel_rfl) (Aj4 R L (cl h,(t,(m,()))) v4)
   rw[hq,Ad (show (64:Int)≤((t.length:Nat):Int) by omega),(A7B h t hh h64).1]
   simp only[Af,Aa]
   rw[BE8 (Aj _),show Am 64=64 from rfl,BE8 h64,A9]
   exact ih (BR4 kT h t) (t.drop 64) (Bc7 hh) (by rw[Au];omega)
  ·rename_i h64
   exact stop h t (by omega)
theorem BV2 (v4:HS) (m:Int) (old:List UInt8):∀ (n:Nat) (h:List Nat) (t:List UInt8),Wd 8 h→t.length < 64 * (n+1) →
  qN R L t (cl h,(old,(m,()))) v4 (cl kT)=some ((cl (BP6 kT n h t).1,((BP6 kT n h t).2,(m,()))),()):=by
 have stop:∀ (h:List Nat) (t:List UInt8),t.length < 64→qN R L t (cl h,(old,(m,()))) v4 (cl kT)=some ((cl h,(t,(m,()))),()):=by
  intro h t ht
  have hq:qN R L t (cl h,(old,(m,()))) v4 (cl kT)=_:=round (by kernel_rfl) (AQ2 R L t (cl h,(old,(m,()))) v4 (cl kT))
  rw[hq,Ae (show ¬ ((64:Int)≤((t.length:Nat):Int)) by omega)]
  rfl
 intro n
 induction n with
 | zero=>intro h t hh ht;exact stop h t (by omega)
 | succ n ih=>
  intro h t hh ht
  unfold BP6
  split
  ·rename_i h64
   have hq:qN R L t (cl h,(old,(m,()))) v4 (cl kT)=_:=round (by kernel_rfl) (AQ2 R L t (cl h,(old,(m,()))) v4 (cl kT))
   rw[hq,Ad (show (64:Int)≤((t.length:Nat):Int) by omega),show Am 64=64 from rfl,BE8 h64,AI,B0d h _ (t.take 64) hh (by rw[A2];omega),Bd8]
   simp only[Af,Aa]
   rw[BE8 (Aj _),A9]
   exact ih (BR4 kT h t) (t.drop 64) (Bc7 hh) (by rw[Au];omega)
  ·rename_i h64
   exact stop h t (by omega)
def hS (h:List Nat) (r:List UInt8) (m:Nat):HS:=(cl h,(r,((m:Int),())))
def Bn3 (h:List Nat) (r t:List UInt8):List Nat × List UInt8:=BP6 kT ((r++t).length / 64) h (r++t)
theorem A74 (n:Nat):n < 64 * (n / 64+1):=by omega
theorem A3Q (h:List Nat) (r t:List UInt8) (m:Nat) (hh:Wd 8 h) (hr:r.length≤1024) (ht:t.length≤549755813888) (hm:m≤549755813888):
  gA R (hS h r m) t=some (hS (Bn3 h r t).1 (Bn3 h r t).2 (m+t.length),()):=by
 have hq:gA R (hS h r m) t=_:=call (A7P R L (hS h r m) t)
 rw[hq]
 unfold hS
 simp only
 rw[wF (by omega),A1z (by simp only[qH];omega)]
 simp only[Af]
 exact BS3 _ _ _ h (r++t) hh (A74 _)
theorem Bu5 (h:List Nat) (r t:List UInt8) (m:Nat) (hh:Wd 8 h) (hr:r.length≤1024) (ht:t.length≤549755813888) (hm:m≤549755813888):
  mZ R (hS h r m) t=some (hS (Bn3 h r t).1 (Bn3 h r t).2 (m+t.length),()):=by
 have hq:mZ R (hS h r m) t=_:=call (A3o R L (hS h r m) t)
 rw[hq,A7A]
 unfold hS
 simp only[Aa]
 rw[wF (by omega),A1z (by simp only[qH];omega)]
 simp only[Af]
 exact BV2 _ _ _ _ h (r++t) hh (A74 _)
theorem A29 {h:List Nat} {r t:List UInt8} (hh:Wd 8 h):Wd 8 (Bn3 h r t).1∧(Bn3 h r t).2.length=(r++t).length % 64:=Bx7 hh (A74 _)
theorem A0x (l:List Nat):AB (fun n:Int=>Ax (Am n)) (cl l)=ub l:=by
 unfold cl ub
 rw[Bb]
 rfl
theorem Ak7 (a b:List Nat):cl a++cl b=cl (a++b):=by
 unfold cl;rw[AQ]
def A8e (m:Nat):Nat:=(119 - m % 64) % 64
def Bh8 (b:Nat):List Nat:=[b / 2 ^ 56 % 256,b / 2 ^ 48 % 256,b / 2 ^ 40 % 256,b / 2 ^ 32 % 256,b / 2 ^ 24 % 256,b / 2 ^ 16 % 256,b / 2 ^ 8 % 256,b / 2 ^ 0 % 256]
def Bz3 (m:Nat):List Nat:=128 :: Ab (A8e m) 0
def Bv4 (m:Nat):List UInt8:=ub (Bz3 m++Bh8 (8 * m))
theorem BC9 (m:Nat):(Bv4 m).length=A8e m+9:=by
 unfold Bv4 ub Bz3 Bh8
 rw[As,Ai,Ak,Aw]
 rfl
def be4 (x:Nat):List Nat:=[x / 2 ^ 24 % 256,x / 2 ^ 16 % 256,x / 2 ^ 8 % 256,x % 256]
theorem BO5 (a b:Nat):A7 (a:Int) (b:Int)=((a % b:Nat):Int):=rfl
theorem A9d (v1:HS) (v3:Int) (m:Nat) (hv:v1.2.2.1=(m:Int)) (hm:m≤549755813888):∀ (k j:Nat),j+k=A8e m →
  mV R L v1 v3 (cl (128 :: Ab j 0))=uR R L v1 v3 (cl (Bz3 m)) 7
 | 0,j,hj=>by
  have hq:mV R L v1 v3 (cl (128 :: Ab j 0))=_:=round (by kernel_rfl) (Ay0 R L v1 v3 (cl (128 :: Ab j 0)))
  have hp:A8e m=(119 - m % 64) % 64:=rfl
  rw[hq,hv,cH,Ak,Aw,A1z (by simp only[qH];omega),show A7 ((m+(j+1):Nat):Int) 64=(((m+(j+1)) % 64:Nat):Int) from BO5 _ 64,
   show eqI (((m+(j+1)) % 64:Nat):Int) 56=true from by rw[yU];exact Ad (by omega)]
  have:j=A8e m:=by omega
  subst this
  rfl
 | k+1,j,hj=>by
  have hq:mV R L v1 v3 (cl (128 :: Ab j 0))=_:=round (by kernel_rfl) (Ay0 R L v1 v3 (cl (128 :: Ab j 0)))
  have hp:A8e m=(119 - m % 64) % 64:=rfl
  rw[hq,hv,cH,Ak,Aw,A1z (by simp only[qH];omega),show A7 ((m+(j+1):Nat):Int) 64=(((m+(j+1)) % 64:Nat):Int) from BO5 _ 64,
   show eqI (((m+(j+1)) % 64:Nat):Int) 56=false from by rw[yU];exact Ae (by omega)]
  simp only[A8,Af]
  rw[wF (by simp only[Ak,Ao];omega)]
  simp only[Af]
  have e:cl (128 :: Ab j 0)++[(0:Int)]=cl (128 :: Ab (j+1) 0):=by
   rw[show [(0:Int)]=cl [0] from rfl,Ak7,List.replicate_succ',Bz]
  rw[e]
  exact A9d v1 v3 m hv hm k (j+1) (by omega)
theorem Br0 (v1:HS) (b:Nat) (hb:b < 9223372036854775808) (p:List Nat) (hp:p.length≤100) (j:Nat) (hj:j < 8):
  uR R L v1 (b:Int) (cl p) (j:Int)=uR R L v1 (b:Int) (cl (p++[b / 2 ^ (8 * j) % 256])) (Ac .i64 ((j:Int) - 1)):=by
 have hq:uR R L v1 (b:Int) (cl p) (j:Int)=_:=round (by kernel_rfl) (Au9 R L v1 (b:Int) (cl p) (j:Int))
 have e8:Ac .i64 ((8:Int) * (j:Int))=((8 * j:Nat):Int):=by rw[zI (by omega) (by omega)];omega
 rw[hq,Ad (show (0:Int)≤(j:Int) by omega),e8,Ae (show ¬ (((8 * j:Nat):Int) < 0) by omega),tn,show Ay (8 * j) (Al .i64)=8 * j from Aq (by simp only[Al];omega),fI,qK,
  wF (by rw[cH];simp only[Ak,Ao];omega)]
 simp only[Af,Ah]
 rw[show [((b / 2 ^ (8 * j) % 256:Nat):Int)]=cl [b / 2 ^ (8 * j) % 256] from rfl,Ak7]
theorem Bo4 (v1:HS) (b:Nat) (hb:b < 9223372036854775808) (p:List Nat) (hp:p.length≤100) (j:Nat) (hj:j < 8):
  wY R L v1 (b:Int) (ub p) (j:Int)=wY R L v1 (b:Int) (ub (p++[b / 2 ^ (8 * j) % 256])) (Ac .i64 ((j:Int) - 1)):=by
 have hq:wY R L v1 (b:Int) (ub p) (j:Int)=_:=round (by kernel_rfl) (Ab0 R L v1 (b:Int) (ub p) (j:Int))
 have e8:Ac .i64 ((8:Int) * (j:Int))=((8 * j:Nat):Int):=by rw[zI (by omega) (by omega)];omega
 have hl:(ub p).length=p.length:=As _
 rw[hq,Ad (show (0:Int)≤(j:Int) by omega),e8,Ae (show ¬ (((8 * j:Nat):Int) < 0) by omega),tn,show Ay (8 * j) (Al .i64)=8 * j from Aq (by simp only[Al];omega),fI,qK,
  wF (by rw[hl,As];simp only[Ak,Ao];omega)]
 simp only[Af,Ah]
 rw[show [((b / 2 ^ (8 * j) % 256:Nat):Int)]=cl [b / 2 ^ (8 * j) % 256] from rfl,A0x]
 unfold ub
 rw[AQ]
theorem BS9 (v1:HS) (b:Nat) (hb:b < 9223372036854775808) (p:List Nat) (hp:p.length≤64):
  uR R L v1 (b:Int) (cl p) 7=(gA R v1 (ub (p++Bh8 b))).bind fun r0=>uS R L r0.1 ([]:List Int) 0:=by
 have st:=fun (q:List Nat) (hq:q.length≤100) (j:Nat) hj=>Br0 v1 b hb q hq j hj
 have e:uR R L v1 (b:Int) (cl p) 7=uR R L v1 (b:Int) (cl (p++Bh8 b)) (-1):=by
  have d:∀ j:Nat,j < 8→Ac .i64 (((j+1:Nat):Int) - 1)=(j:Int):=fun j hj=>BS8 (c:=1) (by omega) (by omega)
  have len:∀ (q:List Nat) (x:Nat),(q++[x]).length=q.length+1:=fun q x=>by simp
  show uR R L v1 (b:Int) (cl p) ((7:Nat):Int)=_
  rw[st p (by omega) 7 (by decide),d 6 (by decide),st _ (by simp only[len];omega) 6 (by decide),d 5 (by decide),st _ (by simp only[len];omega) 5 (by decide),d 4 (by decide),st _ (by simp only[len];omega) 4 (by decide),d 3 (by decide),
   st _ (by simp only[len];omega) 3 (by decide),d 2 (by decide),st _ (by simp only[len];omega) 2 (by decide),d 1 (by decide),st _ (by simp only[len];omega) 1 (by decide),d 0 (by decide),st _ (by simp only[len];omega) 0 (by decide)]
  simp only[Az]
  rfl
 have hq:uR R L v1 (b:Int) (cl (p++Bh8 b)) (-1)=_:=round (by kernel_rfl) (Au9 R L v1 (b:Int) (cl (p++Bh8 b)) (-1))
 rw[e,hq,show decide ((0:Int)≤-1)=false from by decide,A0x]
 rfl
theorem Bf9 (v1:HS) (b:Nat) (hb:b < 9223372036854775808) (p:List Nat) (hp:p.length≤64):
  wY R L v1 (b:Int) (ub p) 7=(mZ R v1 (ub (p++Bh8 b))).bind fun r0=>uJ R L ([]:List Int) r0.1.1 0:=by
 have st:=fun (q:List Nat) (hq:q.length≤100) (j:Nat) hj=>Bo4 v1 b hb q hq j hj
 have e:wY R L v1 (b:Int) (ub p) 7=wY R L v1 (b:Int) (ub (p++Bh8 b)) (-1):=by
  have d:∀ j:Nat,j < 8→Ac .i64 (((j+1:Nat):Int) - 1)=(j:Int):=fun j hj=>BS8 (c:=1) (by omega) (by omega)
  have len:∀ (q:List Nat) (x:Nat),(q++[x]).length=q.length+1:=fun q x=>by simp
  show wY R L v1 (b:Int) (ub p) ((7:Nat):Int)=_
  rw[st p (by omega) 7 (by decide),d 6 (by decide),st _ (by simp only[len];omega) 6 (by decide),d 5 (by decide),st _ (by simp only[len];omega) 5 (by decide),d 4 (by decide),st _ (by simp only[len];omega) 4 (by decide),d 3 (by decide),
   st _ (by simp only[len];omega) 3 (by decide),d 2 (by decide),st _ (by simp only[len];omega) 2 (by decide),d 1 (by decide),st _ (by simp only[len];omega) 1 (by decide),d 0 (by decide),st _ (by simp only[len];omega) 0 (by decide)]
  simp only[Az]
  rfl
 have hq:wY R L v1 (b:Int) (ub (p++Bh8 b)) (-1)=_:=round (by kernel_rfl) (Ab0 R L v1 (b:Int) (ub (p++Bh8 b)) (-1))
 rw[e,hq,show decide ((0:Int)≤-1)=false from by decide]
 rfl
end Go.Rf.S

end
section
namespace Go.Rf.S
set_option maxRecDepth 100000
def stO (h:List Nat) (i:Nat) (o:List Nat):List Nat:=o++be4 (h.getD i 0)
theorem BY5 (h:List Nat) (hh:Wd 8 h) (rest:List UInt8 × (Int × Unit)) (o:List Nat) (ho:o.length≤100) (i:Nat) (hi:i < 8):
  rR R L (cl h,rest) (cl o) (i:Int) 3=uS R L (cl h,rest) (cl (stO h i o)) ((i+1:Nat):Int):=by
 have st:∀ (q:List Nat),q.length≤200→∀ j,j < 4→rR R L (cl h,rest) (cl q) (i:Int) (j:Nat)=rR R L (cl h,rest) (cl (q++[h.getD i 0 / 2 ^ (8 * j) % 256])) (i:Int) (Ac .i64 ((j:Int) - 1)):=by
  intro q hq j hj
  have hq':rR R L (cl h,rest) (cl q) (i:Int) (j:Nat)=_:=round (by kernel_rfl) (Aw7 R L (cl h,rest) (cl q) (i:Int) (j:Nat))
  have e8:Ac .i64 ((8:Int) * (j:Int))=((8 * j:Nat):Int):=by rw[zI (by omega) (by omega)];omega
  rw[hq',Ad (show (0:Int)≤(j:Int) by omega),e8,Ae (show ¬ (((8 * j:Nat):Int) < 0) by omega)]
  simp only[nn,tn,Af,Ah,zO (show i < 8 from hi),yT]
  rw[show Ay (8 * j) (Al .i64)=8 * j from Aq (by simp only[Al];omega),fI,qK,wF (by rw[cH];simp only[Ak,Ao];omega)]
  simp only[Af]
  rw[show [((h.getD i 0 / 2 ^ (8 * j) % 256:Nat):Int)]=cl [h.getD i 0 / 2 ^ (8 * j) % 256] from rfl,Ak7]
 have d:∀ j:Nat,j < 8→Ac .i64 (((j+1:Nat):Int) - 1)=(j:Int):=fun j hj=>BS8 (c:=1) (by omega) (by omega)
 have len:∀ (q:List Nat) (x:Nat),(q++[x]).length=q.length+1:=fun q x=>by simp
 have hend:∀ q,rR R L (cl h,rest) q (i:Int) (-1)=uS R L (cl h,rest) q (Ac .i64 ((i:Int)+1)):=fun q=>by
  have hq':rR R L (cl h,rest) q (i:Int) (-1)=_:=round (by kernel_rfl) (Aw7 R L (cl h,rest) q (i:Int) (-1))
  rw[hq'];rfl
 show rR R L (cl h,rest) (cl o) (i:Int) ((3:Nat):Int)=_
 rw[st o (by omega) 3 (by decide),d 2 (by decide),st _ (by simp only[len];omega) 2 (by decide),d 1 (by decide),st _ (by simp only[len];omega) 1 (by decide),d 0 (by decide),st _ (by simp only[len];omega) 0 (by decide),
  show Ac .i64 (((0:Nat):Int) - 1)=-1 from by decide,hend,zB (by omega)]
 simp only[Az]
 unfold stO be4
 simp only[Nat.mul_zero,AF,AO,Bz,List.nil_append,show 8 * 3=24 from rfl,show 8 * 2=16 from rfl,show 8 * 1=8 from rfl]
theorem BU4 (h:List Nat) (i:Nat) (o:List Nat):(stO h i o).length=o.length+4:=by
 unfold stO be4;rw[Ai];rfl
theorem A9E (h:List Nat) (hh:Wd 8 h) (rest:List UInt8 × (Int × Unit)):
  uS R L (cl h,rest) (cl []) 0=some (ub (vM (stO h) 8 0 []),())∧(vM (stO h) 8 0 []).length=4 * 8:=
 yX (fun (o:List Nat) i=>uS R L (cl h,rest) (cl o) i) (stO h) (fun i o=>o.length=4 * i) 8 (fun o=>some (ub o,()))
  (fun o _=>by
   have hq:uS R L (cl h,rest) (cl o) (8:Nat)=_:=round (by kernel_rfl) (Aw1 R L (cl h,rest) (cl o) (8:Nat))
   show uS R L (cl h,rest) (cl o) (8:Nat)=_
   rw[hq,show decide (((8:Nat):Int) < 8)=false from by decide,A0x];rfl)
  (fun o i hi ho=>by
   have hq:uS R L (cl h,rest) (cl o) (i:Nat)=_:=round (by kernel_rfl) (Aw1 R L (cl h,rest) (cl o) (i:Nat))
   refine⟨?_,by rw[BU4];omega⟩
   show uS R L (cl h,rest) (cl o) (i:Nat)=_
   rw[hq,show decide ((i:Int) < 8)=true from Ad (by omega)]
   exact BY5 h hh rest o (by omega) i hi)
  [] rfl
theorem Bj1 (h:List Nat) (hh:Wd 8 h):
  uJ R L (cl []) (cl h) 0=some (ub (vM (stO h) 8 0 []),())∧(vM (stO h) 8 0 []).length=4 * 8:=
 yX (fun (o:List Nat) i=>uJ R L (cl o) (cl h) i) (stO h) (fun i o=>o.length=4 * i) 8 (fun o=>some (ub o,()))
  (fun o _=>by
   have hq:uJ R L (cl o) (cl h) (8:Nat)=_:=round (by kernel_rfl) (Ab5 R L (cl o) (cl h) (8:Nat))
   show uJ R L (cl o) (cl h) (8:Nat)=_
   rw[hq,show decide (((8:Nat):Int) < 8)=false from by decide,A0x];rfl)
  (fun o i hi ho=>by
   have hq:uJ R L (cl o) (cl h) (i:Nat)=_:=round (by kernel_rfl) (Ab5 R L (cl o) (cl h) (i:Nat))
   refine⟨?_,by rw[BU4];omega⟩
   show uJ R L (cl o) (cl h) (i:Nat)=_
   have m24:Ay (Am 24) (Al .i64)=24:=rfl
   have m16:Ay (Am 16) (Al .i64)=16:=rfl
   have m8:Ay (Am 8) (Al .i64)=8:=rfl
   rw[hq,show decide ((i:Int) < 8)=true from Ad (by omega),zB (by omega)]
   simp only[nn,tn,Af,zO (show i < 8 from hi),yT]
   rw[m24,m16,m8,fI,fI,fI,qK,qK,qK,qK,wF (by rw[cH];simp only[Ak,Ao];omega)]
   simp only[Af]
   rw[show [((h.getD i 0 / 2 ^ 24 % 256:Nat):Int),((h.getD i 0 / 2 ^ 16 % 256:Nat):Int),((h.getD i 0 / 2 ^ 8 % 256:Nat):Int),((h.getD i 0 % 256:Nat):Int)]=cl (be4 (h.getD i 0)) from rfl,Ak7]
   rfl)
  [] rfl
theorem A1N:∀ n:Nat,Go.Lib.repeatL [(0:UInt8)] n=ub (Ab n 0)
 | 0=>by simp[Go.Lib.repeatL,ub]
 | n+1=>by
  show [(0:UInt8)]++Go.Lib.repeatL [0] n=_
  rw[A1N n]
  unfold ub
  rw[AS,List.map_cons]
  rfl
theorem A45 (n:Nat) (hn:n≤64):lC R [0] (n:Int)=some (ub (Ab n 0),()):=by
 have e:lC R [0] (n:Int)=B3Q [⟨.str,[0]⟩,⟨.int .i64,(n:Int)⟩]:=BL6 rfl _
 rw[e]
 show cond (decide (0≤(n:Int))&&(B8 0 ([0]:List UInt8).length&&A' (([0]:List UInt8).length * Am (n:Int)) 1099511627776)) (some (Go.Lib.repeatL [0] (Am (n:Int)),())) none=_
 rw[Ad (show (0:Int)≤(n:Int) by omega),tn,show B8 0 ([0]:List UInt8).length=true from rfl,show A' (([0]:List UInt8).length * n) 1099511627776=true from by rw[Ba];simp only[Ak,Ao];omega,A1N]
 rfl
def B13 (h:List Nat) (r:List UInt8) (m:Nat):List UInt8:=ub (vM (stO (Bn3 h r (Bv4 m)).1) 8 0 [])
theorem Bn8 (h:List Nat) (r:List UInt8) (m:Nat) (hh:Wd 8 h):(B13 h r m).length=32:=by
 unfold B13 ub
 rw[As,(A9E _ (A29 (r:=r) (t:=Bv4 m) hh).1 ([],((0:Int),()))).2]
theorem BO6 (h:List Nat) (r:List UInt8) (m:Nat) (hh:Wd 8 h) (hr:r.length=m % 64) (hm:m≤549755813888):AW0 R (hS h r m)=some (B13 h r m,()):=by
 have hq:AW0 R (hS h r m)=_:=call (BN7 R L (hS h r m))
 have e8:Ac .i64 ((8:Int) * (m:Int))=((8 * m:Nat):Int):=by rw[zI (by omega) (by omega)];omega
 have hp:A8e m≤63:=by unfold A8e;omega
 have hpl:(Bz3 m).length≤64:=by unfold Bz3;rw[Ak,Aw];omega
 have hT:=BC9 m
 rw[hq]
 show mV R L (hS h r m) (Ac .i64 ((8:Int) * (m:Int))) (cl (128 :: Ab 0 0))=_
 rw[e8,A9d (hS h r m) _ m rfl hm (A8e m) 0 (by omega),BS9 _ _ (by omega) _ hpl]
 show (gA R (hS h r m) (Bv4 m)).bind _=_
 rw[A3Q h r (Bv4 m) m hh (by omega) (by omega) hm]
 simp only[Aa]
 exact (A9E _ (A29 hh).1 _).1
theorem B3l (h:List Nat) (r:List UInt8) (m:Nat) (hh:Wd 8 h) (hr:r.length=m % 64) (hm:m≤549755813888):AC7 R (hS h r m)=some (B13 h r m,()):=by
 have hq:AC7 R (hS h r m)=_:=call (A60 R L (hS h r m))
 have e8:Ac .i64 ((8:Int) * (m:Int))=((8 * m:Nat):Int):=by rw[zI (by omega) (by omega)];omega
 have hp:A8e m≤63:=by unfold A8e;omega
 have hpl:(Bz3 m).length≤64:=by unfold Bz3;rw[Ak,Aw];omega
 have hT:=BC9 m
 have en:A7 (Ac .i64 ((119:Int) - ((r.length:Nat):Int))) 64=((A8e m:Nat):Int):=by
  rw[show (119:Int) - ((r.length:Nat):Int)=((119 - r.length:Nat):Int) by omega,qP (by omega),show A7 ((119 - r.length:Nat):Int) 64=(((119 - r.length) % 64:Nat):Int) from BO5 _ 64,hr]
  rfl
 rw[hq]
 show (lC R [0] (A7 (Ac .i64 ((119:Int) - ((r.length:Nat):Int))) 64)).bind (fun r0=>cond (yI (1+r0.1.length)) (wY R L (hS h r m) (Ac .i64 ((8:Int) * (m:Int))) ([128]++r0.1) 7) none)=_
 rw[en,A45 _ (by omega)]
 simp only[Aa]
 have hul:(ub (Ab (A8e m) 0)).length=A8e m:=by unfold ub;rw[As,Aw]
 rw[wF (by omega),e8,show ([128]:List UInt8)++ub (Ab (A8e m) 0)=ub (Bz3 m) from rfl]
 simp only[Af]
 rw[Bf9 _ _ (by omega) _ hpl]
 show (mZ R (hS h r m) (Bv4 m)).bind _=_
 rw[Bu5 h r (Bv4 m) m hh (by omega) (by omega) hm]
 simp only[Aa]
 exact (Bj1 _ (A29 hh).1).1
def dig (t:List UInt8):List UInt8:=B13 (Bn3 hT [] t).1 (Bn3 hT [] t).2 t.length
theorem BR7 (t:List UInt8):(dig t).length=32:=Bn8 _ _ _ (A29 B1t).1
theorem A9R (t:List UInt8) (ht:t.length≤549755813888):AH2 R t=some (dig t,()):=by
 have hq:AH2 R t=_:=call (BD9 R L t)
 have hn:Ae7 R=some (hS hT [] 0,()):=call (A8a R L)
 have hw:=A29 (r:=[]) (t:=t) B1t
 rw[hq,hn]
 simp only[Aa]
 rw[Bu5 hT [] t 0 B1t (by simp) ht (by decide)]
 simp only[Aa]
 rw[Bc,B3l _ _ t.length hw.1 hw.2 ht]
 rfl
theorem BQ1 (t:List UInt8) (ht:t.length≤549755813888):AT5 R t=some (dig t,()):=by
 have hq:AT5 R t=_:=call (BS6 R L t)
 have hn0:AM1 R=_:=call (A7s R L)
 have hn:AM1 R=some (hS hT [] 0,()):=by rw[hn0,B01];rfl
 have hw:=A29 (r:=[]) (t:=t) B1t
 rw[hq,hn]
 simp only[Aa]
 rw[A3Q hT [] t 0 B1t (by simp) ht (by decide)]
 simp only[Aa]
 rw[Bc,BO6 _ _ t.length hw.1 hw.2 ht]
 rfl
end Go.Rf.S

end
section
namespace Go.Rf.S
set_option maxRecDepth 100000
theorem B3i:∀ n:Fin 32,wB .and .u64 (Ac .u64 (n.val:Int)) 31=(n.val:Int):=by decide +kernel
theorem Bw0 (x n:Nat) (hx:x < 4294967296) (hn:n < 32):xM R (x:Int) (n:Int)=some (((rl n x:Nat):Int),()):=by
 have hq:xM R (x:Int) (n:Int)=_:=call (gL R L (x:Int) (n:Int))
 have e1:=B3i ⟨n,hn⟩
 simp only at e1
 have e2:Ac .u64 ((32:Int) - (n:Int))=((32 - n:Nat):Int):=by
  rw[show (32:Int) - (n:Int)=((32 - n:Nat):Int) by omega,Ak0 (by simp only[qH];omega)]
 rw[hq,e1,e2,Ae (show ¬ (((32 - n:Nat):Int) < 0) by omega)]
 simp only[Ah,tn]
 rw[show Ay (32 - n) (Al .u32)=32 - n from Aq (by simp only[Al];omega),show Ay n (Al .u32)=n from Aq (by simp only[Al];omega),BH7,A0v,fI,
  Au5 (k:=.u32) (vY _) (jM _ hx)]
 rfl
theorem A9Y (x n:Nat) (hx:x < 4294967296) (hn:n < 31):pJ R (x:Int) (n:Int)=some (((rl n x:Nat):Int),()):=by
 have hq:pJ R (x:Int) (n:Int)=_:=call (A7e R L (x:Int) (n:Int))
 have e2:Ac .i64 ((32:Int) - (n:Int))=((32 - n:Nat):Int):=by
  rw[zI (by omega) (by omega)];omega
 have hb:x * 2 ^ n < 9223372036854775808:=by
  have h1:2 ^ n≤2 ^ 30:=A6 (by decide) (by omega)
  have h2:x * 2 ^ n≤x * 2 ^ 30:=Bm _ h1
  omega
 rw[hq,e2,Ae (show ¬ ((n:Int) < 0) by omega),Ae (show ¬ (((32 - n:Nat):Int) < 0) by omega)]
 simp only[Ah,tn]
 rw[show Ay (32 - n) (Al .i64)=32 - n from Aq (by simp only[Al];omega),show Ay n (Al .i64)=n from Aq (by simp only[Al];omega),A5k (k:=.i64) hb,fI,
  Au5 (k:=.i64) hb (Bx (jM _ hx) (by decide)),m32 (Nat.or_lt_two_pow (n:=63) hb (Bx (jM _ hx) (by decide))),Bz9 hx]
def qT:List (List Int):=[[16,12],[8,7]]
theorem BT7 (a b c d:Nat) (ha:a < 4294967296) (hb:b < 4294967296) (hc:c < 4294967296) (hd:d < 4294967296):
  AM9 R (a:Int) (b:Int) (c:Int) (d:Int)=some ((((qr a b c d).1:Nat):Int),((((qr a b c d).2.1:Nat):Int),((((qr a b c d).2.2.1:Nat):Int),((((qr a b c d).2.2.2:Nat):Int),())))):=by
 have hq:AM9 R (a:Int) (b:Int) (c:Int) (d:Int)=_:=call (A8g R L (a:Int) (b:Int) (c:Int) (d:Int))
 have st:∀ (a b c d i s1 s2:Nat),b < 4294967296→d < 4294967296→i < 2→s1 < 32→s2 < 32→(qT.getD i (Ab 2 (0:Int))).getD (Am 0) 0=(s1:Int)→(qT.getD i (Ab 2 (0:Int))).getD (Am 1) 0=(s2:Int) →
   rX R L (a:Int) (b:Int) (c:Int) (d:Int) qT (i:Int) =
    rX R L (((a+b) % 4294967296:Nat):Int) ((rl s2 (b ^^^ ((c+rl s1 (d ^^^ ((a+b) % 4294967296))) % 4294967296)):Nat):Int) (((c+rl s1 (d ^^^ ((a+b) % 4294967296))) % 4294967296:Nat):Int) ((rl s1 (d ^^^ ((a+b) % 4294967296)):Nat):Int) qT ((i+1:Nat):Int):=by
  intro a b c d i s1 s2 hb hd hi h1 h2 e1 e2
  have hq:rX R L (a:Int) (b:Int) (c:Int) (d:Int) qT (i:Int)=_:=round (by kernel_rfl) (Am7 R L (a:Int) (b:Int) (c:Int) (d:Int) qT (i:Int))
  rw[hq,show decide ((i:Int) < 2)=true from Ad (by omega),zB (by omega)]
  simp only[nn,tn,Af,zO (show i < 2 from hi),Bw1]
  rw[e1,e2,AO8 (k:=.u32) (by decide) hd (vY _),Bw0 _ s1 (wD hd (vY _)) h1]
  simp only[Aa,Bw1]
  rw[AO8 (k:=.u32) (by decide) hb (vY _),Bw0 _ s2 (wD hb (vY _)) h2]
  rfl
 rw[hq]
 show rX R L (a:Int) (b:Int) (c:Int) (d:Int) qT ((0:Nat):Int)=_
 rw[st a b c d 0 16 12 hb hd (by decide) (by decide) (by decide) rfl rfl,st _ _ _ _ 1 8 7 (A2T (wD hb (vY _))) (A2T (wD hd (vY _))) (by decide) (by decide) (by decide) rfl rfl]
 have he:∀ (a b c d:Int),rX R L a b c d qT ((1+1:Nat):Int)=some (a,(b,(c,(d,())))):=fun a b c d=>by
  have hq:rX R L a b c d qT ((1+1:Nat):Int)=_:=round (by kernel_rfl) (Am7 R L a b c d qT ((1+1:Nat):Int))
  rw[hq];rfl
 rw[he]
 rfl
def ql (q:Nat × Nat × Nat × Nat):List Nat:=[q.1,q.2.1,q.2.2.1,q.2.2.2]
theorem A3a (a b c d:Nat) (ha:a < 4294967296) (hb:b < 4294967296) (hc:c < 4294967296) (hd:d < 4294967296):
  dH R (a:Int) (b:Int) (c:Int) (d:Int)=some (cl (ql (qr a b c d)),()):=by
 have hq:dH R (a:Int) (b:Int) (c:Int) (d:Int)=_:=call (A12 R L (a:Int) (b:Int) (c:Int) (d:Int))
 have sm:∀ {x y:Nat},x < 4294967296→y < 4294967296→wB .and .i64 (Ac .i64 ((x:Int)+(y:Int))) 4294967295=(((x+y) % 4294967296:Nat):Int):=fun hx hy=>by
  rw[A1z (by simp only[qH];omega),m32 (by omega)]
 have L16:∀ {x:Nat},x < 4294967296→pJ R (x:Int) 16=some (((rl 16 x:Nat):Int),()):=fun {x} h=>A9Y x 16 h (by decide)
 have L12:∀ {x:Nat},x < 4294967296→pJ R (x:Int) 12=some (((rl 12 x:Nat):Int),()):=fun {x} h=>A9Y x 12 h (by decide)
 have L8:∀ {x:Nat},x < 4294967296→pJ R (x:Int) 8=some (((rl 8 x:Nat):Int),()):=fun {x} h=>A9Y x 8 h (by decide)
 have L7:∀ {x:Nat},x < 4294967296→pJ R (x:Int) 7=some (((rl 7 x:Nat):Int),()):=fun {x} h=>A9Y x 7 h (by decide)
 have h1:=vY (a+b)
 have hd1:rl 16 (d ^^^ ((a+b) % 4294967296)) < 4294967296:=A2T (wD hd h1)
 have hc1:=vY (c+rl 16 (d ^^^ ((a+b) % 4294967296)))
 rw[hq,sm ha hb,AO8 (k:=.i64) (by decide) hd h1,L16 (wD hd h1)]
 simp only[Aa]
 rw[sm hc hd1,AO8 (k:=.i64) (by decide) hb hc1,L12 (wD hb hc1)]
 simp only[Aa]
 have hb1:rl 12 (b ^^^ ((c+rl 16 (d ^^^ ((a+b) % 4294967296))) % 4294967296)) < 4294967296:=A2T (wD hb hc1)
 rw[sm h1 hb1,AO8 (k:=.i64) (by decide) hd1 (vY _),L8 (wD hd1 (vY _))]
 simp only[Aa]
 rw[sm hc1 (A2T (wD hd1 (vY _))),AO8 (k:=.i64) (by decide) hb1 (vY _),L7 (wD hb1 (vY _))]
 rfl
theorem B1L {a b c d:Nat} {y:List Nat} {n:Nat} (h:Wd n y):Wd n (qs a b c d y):=⟨by rw[B1w];exact h.1,B36 h.2⟩
theorem BX7 (y:List Nat) (hy:Wd 16 y) (a b c d:Nat) (ha:a < 16) (hb:b < 16) (hc:c < 16) (hd:d < 16):
  cE R (cl y) (a:Int) (b:Int) (c:Int) (d:Int)=some (cl (qs a b c d y),()):=by
 have hq:cE R (cl y) (a:Int) (b:Int) (c:Int) (d:Int)=_:=call (A6f R L (cl y) (a:Int) (b:Int) (c:Int) (d:Int))
 rw[hq]
 simp only[nn,tn,Af,zO ha,zO hb,zO hc,zO hd,yT]
 rw[A3a _ _ _ _ (hy.g a) (hy.g b) (hy.g c) (hy.g d)]
 simp only[Aa,yT,rE]
 rfl
theorem Bx3 (k:IntKind) (hk:4294967296≤qH k) (h32:32≤k.bits) (t:List UInt8) (i:Nat):
  wB .or k (wB .or k (wB .or k (Ac k (((t.getD i 0).toNat:Nat):Int))
   (Ac k (Ac k (((t.getD (i+1) 0).toNat:Nat):Int) * ((2:Int) ^ Ay (Am 8) k.bits))))
   (Ac k (Ac k (((t.getD (i+2) 0).toNat:Nat):Int) * ((2:Int) ^ Ay (Am 16) k.bits))))
   (Ac k (Ac k (((t.getD (i+3) 0).toNat:Nat):Int) * ((2:Int) ^ Ay (Am 24) k.bits)))=((wLE t i:Nat):Int):=by
 have h0:=oF t i;have h1:=oF t (i+1);have h2:=oF t (i+2);have h3:=oF t (i+3)
 have m24:Ay (Am 24) k.bits=24:=Aq (by show 24≤_;omega)
 have m16:Ay (Am 16) k.bits=16:=Aq (by show 16≤_;omega)
 have m8:Ay (Am 8) k.bits=8:=Aq (by show 8≤_;omega)
 have hk8:256≤qH k:=AT (by decide) hk
 unfold bt at h0 h1 h2 h3
 rw[m24,m16,m8,A5p hk8,A5p hk8,A5p hk8,A5p hk8,A5k (by omega),A5k (by omega),A5k (by omega),B1f hk (by omega) (by omega),B1f hk (eF (by omega) (by omega)) (by omega),B1f hk (eF (eF (by omega) (by omega)) (by omega)) (by omega)]
 rfl
theorem A3f (t:List UInt8) (i:Nat) (h:i+3 < t.length) (hi:i < 1099511627776):kP R t (i:Int)=some (((wLE t i:Nat):Int),()):=by
 have hq:kP R t (i:Int)=_:=call (A8I R L t (i:Int))
 have e1:Ac .i64 ((i:Int)+1)=((i+1:Nat):Int):=A1h 1 (by omega)
 have e2:Ac .i64 ((i:Int)+2)=((i+2:Nat):Int):=A1h 2 (by omega)
 have e3:Ac .i64 ((i:Int)+3)=((i+3:Nat):Int):=A1h 3 (by omega)
 rw[hq,e1,e2,e3]
 simp only[nn,tn,zO (show i < t.length by omega),zO (show i+1 < t.length by omega),zO (show i+2 < t.length by omega),zO h,Af]
 rw[Bx3 .i64 (by decide) (by decide)]
theorem Aw5 (t:List UInt8) (h:4≤t.length):iT R t=some (((wLE t 0:Nat):Int),()):=by
 have hq:iT R t=_:=call (A2G R L t)
 rw[hq]
 simp only[show Am 0=0 from rfl,show Am 1=1 from rfl,show Am 2=2 from rfl,show Am 3=3 from rfl,zO (show 0 < t.length by omega),zO (show 1 < t.length by omega),zO (show 2 < t.length by omega),zO (show 3 < t.length by omega),Af]
 rw[show wB .or .u32 _ _=_ from Bx3 .u32 (by decide) (by decide) t 0]
end Go.Rf.S

end
section
namespace Go.Rf.S
set_option maxRecDepth 100000
theorem BB4 (v n:Nat) (hn:n≤8):qV R L (v:Int) (cl []) (n:Int) 0=some (ub (lit v n),())∧(lit v n).length=n:=
 yX (fun (o:List Nat) i=>qV R L (v:Int) (cl o) (n:Int) i) (stL v) (fun i o=>o.length=i) n (fun o=>some (ub o,()))
  (fun o _=>by
   have hq:qV R L (v:Int) (cl o) (n:Int) (n:Nat)=_:=round (by kernel_rfl) (Aw3 R L (v:Int) (cl o) (n:Int) (n:Nat))
   show qV R L (v:Int) (cl o) (n:Int) (n:Nat)=_
   rw[hq,Ae (show ¬ ((n:Int) < (n:Int)) by omega),A0x];rfl)
  (fun o i hi ho=>by
   have hq:qV R L (v:Int) (cl o) (n:Int) (i:Nat)=_:=round (by kernel_rfl) (Aw3 R L (v:Int) (cl o) (n:Int) (i:Nat))
   refine⟨?_,by unfold stL;rw[Ai,ho];rfl⟩
   show qV R L (v:Int) (cl o) (n:Int) (i:Nat)=_
   have e8:Ac .i64 ((8:Int) * (i:Int))=((8 * i:Nat):Int):=by rw[zI (by omega) (by omega)];omega
   rw[hq,Ad (show (i:Int) < (n:Int) by omega),e8,Ae (show ¬ (((8 * i:Nat):Int) < 0) by omega),tn,show Ay (8 * i) (Al .i64)=8 * i from Aq (by simp only[Al];omega),fI,qK,
    wF (by rw[cH];simp only[Ak,Ao];omega),zB (by omega)]
   simp only[Af,Ah]
   rw[show [((v / 2 ^ (8 * i) % 256:Nat):Int)]=cl [v / 2 ^ (8 * i) % 256] from rfl,Ak7]
   rfl)
  [] rfl
theorem AY9 (v n:Nat) (hn:n≤8):uH R (v:Int) (n:Int)=some (ub (lit v n),()):=by
 have hq:uH R (v:Int) (n:Int)=_:=call (BJ8 R L (v:Int) (n:Int))
 exact hq.trans (BB4 v n hn).1
theorem AF1 (v n:Nat) (hn:n≤8):(lit v n).length=n:=(BB4 v n hn).2
theorem Ar0 {a b:List UInt8} {i:Nat} (h:i < a.length):bt (a++b) i=bt a i:=by
 unfold bt;rw[Ag,Ag,AW h]
theorem Ap7 {a b:List UInt8} {i:Nat} (h:a.length≤i):bt (a++b) i=bt b (i - a.length):=by
 unfold bt;rw[Ag,Ag,AD h]
theorem AV3 {a b:List UInt8} {i:Nat} (h:i+3 < a.length):wLE (a++b) i=wLE a i:=by
 unfold wLE;rw[Ar0 (by omega),Ar0 (by omega),Ar0 (by omega),Ar0 (by omega)]
theorem A39 {a b:List UInt8} {i j:Nat} (h:i=a.length+j):wLE (a++b) i=wLE b j:=by
 unfold wLE;rw[Ap7 (by omega),Ap7 (by omega),Ap7 (by omega),Ap7 (by omega),show i - a.length=j by omega,show i+1 - a.length=j+1 by omega,show i+2 - a.length=j+2 by omega,show i+3 - a.length=j+3 by omega]
theorem A9X {t:List UInt8} {i:Nat}:wLE (t.drop i) 0=wLE t i:=by
 have:∀ j,bt (t.drop i) j=bt t (i+j):=fun j=>by unfold bt;rw[Ag,Ag,AH]
 unfold wLE
 rw[this,this,this,this]
 simp only[Nat.add_zero,Bc]
theorem Bf4 {a b n:Nat} (h:a < 2 ^ n):a ||| b * 2 ^ n=a+b * 2 ^ n:=by
 rw[Nat.or_comm,Be b,← AU h,Nat.add_comm]
theorem B1Z (v:Nat) (hv:v < 4294967296):wLE (ub (lit v 4)) 0=v:=by
 have e:ub (lit v 4)=[Ax (v / 2 ^ 0 % 256),Ax (v / 2 ^ 8 % 256),Ax (v / 2 ^ 16 % 256),Ax (v / 2 ^ 24 % 256)]:=rfl
 have b:∀ n:Nat,(Ax (n % 256)).toNat=n % 256:=fun n=>by
  rw[Bt];exact Nat.mod_mod _ _
 rw[e]
 unfold wLE bt
 show (Ax (v / 2 ^ 0 % 256)).toNat ||| (Ax (v / 2 ^ 8 % 256)).toNat * 2 ^ 8 ||| (Ax (v / 2 ^ 16 % 256)).toNat * 2 ^ 16 ||| (Ax (v / 2 ^ 24 % 256)).toNat * 2 ^ 24=v
 rw[b,b,b,b,Bf4 (n:=8) (by omega),Bf4 (n:=16) (by omega),Bf4 (n:=24) (by omega)]
 omega
theorem B27 (key nonce:List UInt8) (count:Nat) (hc:count < 4294967296):Wd 16 (chI key nonce count):=⟨rfl,fun x hx=>by
 unfold chI at hx
 simp only[Br,B1,or_false] at hx
 rcases hx with rfl|rfl|rfl|rfl|rfl|rfl|rfl|rfl|rfl|rfl|rfl|rfl|rfl|rfl|rfl|rfl<;>first|exact Bz4 _ _|exact hc⟩
theorem B0U (key nonce:List UInt8) (count:Int) (y:List Nat):
  tW R L key nonce count (cl y) 0=vT R L key nonce count (cl (vM (fun i y=>y.set i (wLE exC (4 * i))) 4 0 y)) 0:=
 (yX (fun (y:List Nat) i=>tW R L key nonce count (cl y) i) (fun i y=>y.set i (wLE exC (4 * i))) (fun _ _=>True) 4 (fun y=>vT R L key nonce count (cl y) 0)
  (fun y _=>by
   have hq:tW R L key nonce count (cl y) (4:Nat)=_:=round (by kernel_rfl) (Ac3 R L key nonce count (cl y) (4:Nat))
   show tW R L key nonce count (cl y) (4:Nat)=_
   rw[hq];rfl)
  (fun y i hi _=>by
   have hq:tW R L key nonce count (cl y) (i:Nat)=_:=round (by kernel_rfl) (Ac3 R L key nonce count (cl y) (i:Nat))
   refine⟨?_,trivial⟩
   show tW R L key nonce count (cl y) (i:Nat)=_
   have e4:Ac .i64 ((4:Int) * (i:Int))=((4 * i:Nat):Int):=by rw[zI (by omega) (by omega)];omega
   rw[hq,show decide ((i:Int) < 4)=true from Ad (by omega),e4,show kP R [101,120,112,97,110,100,32,51,50,45,98,121,116,101,32,107] ((4 * i:Nat):Int)=some (((wLE exC (4 * i):Nat):Int),()) from A3f exC (4 * i) (by show 4 * i+3 < 16;omega) (by omega),zB (by omega)]
   simp only[nn,tn,Af,Aa]
   rw[zO (show i < 16 by omega),rE]
   rfl)
  y trivial).1
theorem B0z (key nonce:List UInt8) (hk:key.length=32) (count:Nat) (y:List Nat):
  vT R L key nonce (count:Int) (cl y) 0=vO R L nonce (cl ((vM (fun i y=>y.set (4+i) (wLE key (4 * i))) 8 0 y).set 12 count)) 0:=
 (yX (fun (y:List Nat) i=>vT R L key nonce (count:Int) (cl y) i) (fun i y=>y.set (4+i) (wLE key (4 * i))) (fun _ _=>True) 8 (fun y=>vO R L nonce (cl (y.set 12 count)) 0)
  (fun y _=>by
   have hq:vT R L key nonce (count:Int) (cl y) (8:Nat)=_:=round (by kernel_rfl) (Ab6 R L key nonce (count:Int) (cl y) (8:Nat))
   show vT R L key nonce (count:Int) (cl y) (8:Nat)=_
   rw[hq,rE];rfl)
  (fun y i hi _=>by
   have hq:vT R L key nonce (count:Int) (cl y) (i:Nat)=_:=round (by kernel_rfl) (Ab6 R L key nonce (count:Int) (cl y) (i:Nat))
   refine⟨?_,trivial⟩
   show vT R L key nonce (count:Int) (cl y) (i:Nat)=_
   have e4:Ac .i64 ((4:Int) * (i:Int))=((4 * i:Nat):Int):=by rw[zI (by omega) (by omega)];omega
   have e5:Ac .i64 ((4:Int)+(i:Int))=((4+i:Nat):Int):=by rw[zI (by omega) (by omega)];omega
   rw[hq,show decide ((i:Int) < 8)=true from Ad (by omega),e4,e5,A3f key (4 * i) (by omega) (by omega),zB (by omega)]
   simp only[nn,tn,Af,Aa]
   rw[zO (show 4+i < 16 by omega),rE]
   rfl)
  y trivial).1
theorem B0G (nonce:List UInt8) (hk:nonce.length=12) (y:List Nat):
  vO R L nonce (cl y) 0=xT R L (cl (vM (fun i y=>y.set (13+i) (wLE nonce (4 * i))) 3 0 y)) (cl (vM (fun i y=>y.set (13+i) (wLE nonce (4 * i))) 3 0 y)) 0:=
 (yX (fun (y:List Nat) i=>vO R L nonce (cl y) i) (fun i y=>y.set (13+i) (wLE nonce (4 * i))) (fun _ _=>True) 3 (fun y=>xT R L (cl y) (cl y) 0)
  (fun y _=>by
   have hq:vO R L nonce (cl y) (3:Nat)=_:=round (by kernel_rfl) (Ac0 R L nonce (cl y) (3:Nat))
   show vO R L nonce (cl y) (3:Nat)=_
   rw[hq];rfl)
  (fun y i hi _=>by
   have hq:vO R L nonce (cl y) (i:Nat)=_:=round (by kernel_rfl) (Ac0 R L nonce (cl y) (i:Nat))
   refine⟨?_,trivial⟩
   show vO R L nonce (cl y) (i:Nat)=_
   have e4:Ac .i64 ((4:Int) * (i:Int))=((4 * i:Nat):Int):=by rw[zI (by omega) (by omega)];omega
   have e5:Ac .i64 ((13:Int)+(i:Int))=((13+i:Nat):Int):=by rw[zI (by omega) (by omega)];omega
   rw[hq,show decide ((i:Int) < 3)=true from Ad (by omega),e4,e5,A3f nonce (4 * i) (by omega) (by omega),zB (by omega)]
   simp only[nn,tn,Af,Aa]
   rw[zO (show 13+i < 16 by omega),rE]
   rfl)
  y trivial).1
theorem B20 (key nonce:List UInt8) (hk:key.length=32) (hn:nonce.length=12) (count:Nat):
  mE R key nonce (count:Int)=xT R L (cl (chI key nonce count)) (cl (chI key nonce count)) 0:=by
 have hq:mE R key nonce (count:Int)=_:=call (A64 R L key nonce (count:Int))
 refine hq.trans ((B0U key nonce (count:Int) (Ab 16 0)).trans ((B0z key nonce hk count _).trans ((B0G nonce hn _).trans ?_)))
 rfl
theorem B1n {k:Nat} {y:List Nat} (h:Wd 16 y):Wd 16 (rk k y):=B1L (B1L (B1L (B1L h)))
theorem Bk7 (v7:List Int) (y:List Nat) (hy:Wd 16 y) (v12:Int):
  tV R L v7 (cl y) v12 0=vS R L v7 (cl (rk 0 y)) v12 0:=
 (yX (fun (y:List Nat) i=>tV R L v7 (cl y) v12 i) (fun i y=>qs i (4+(i+0) % 4) (8+(i+2 * 0) % 4) (12+(i+3 * 0) % 4) y) (fun _ y=>Wd 16 y) 4 (fun y=>vS R L v7 (cl y) v12 0)
  (fun y _=>by
   have hq:tV R L v7 (cl y) v12 (4:Nat)=_:=round (by kernel_rfl) (Ad6 R L v7 (cl y) v12 (4:Nat))
   show tV R L v7 (cl y) v12 (4:Nat)=_
   rw[hq];rfl)
  (fun y i hi hy=>by
   have hq:tV R L v7 (cl y) v12 (i:Nat)=_:=round (by kernel_rfl) (Ad6 R L v7 (cl y) v12 (i:Nat))
   refine⟨?_,B1L hy⟩
   show tV R L v7 (cl y) v12 (i:Nat)=_
   have e4:Ac .i64 ((4:Int)+(i:Int))=((4+(i+0) % 4:Nat):Int):=by rw[zI (by omega) (by omega)];omega
   have e8:Ac .i64 ((8:Int)+(i:Int))=((8+(i+2 * 0) % 4:Nat):Int):=by rw[zI (by omega) (by omega)];omega
   have e12:Ac .i64 ((12:Int)+(i:Int))=((12+(i+3 * 0) % 4:Nat):Int):=by rw[zI (by omega) (by omega)];omega
   rw[hq,show decide ((i:Int) < 4)=true from Ad (by omega),e4,e8,e12,BX7 y hy _ _ _ _ (by omega) (by omega) (by omega) (by omega),zB (by omega)]
   rfl)
  y hy).1
theorem tm4 (a:Nat):A7 (a:Int) 4=((a % 4:Nat):Int):=BO5 a 4
theorem Bl1 (v7:List Int) (y:List Nat) (hy:Wd 16 y) (v12:Int):
  vS R L v7 (cl y) v12 0=xT R L v7 (cl (rk 1 y)) (Ac .i64 (v12+1)):=
 (yX (fun (y:List Nat) i=>vS R L v7 (cl y) v12 i) (fun i y=>qs i (4+(i+1) % 4) (8+(i+2 * 1) % 4) (12+(i+3 * 1) % 4) y) (fun _ y=>Wd 16 y) 4 (fun y=>xT R L v7 (cl y) (Ac .i64 (v12+1)))
  (fun y _=>by
   have hq:vS R L v7 (cl y) v12 (4:Nat)=_:=round (by kernel_rfl) (Ac7 R L v7 (cl y) v12 (4:Nat))
   show vS R L v7 (cl y) v12 (4:Nat)=_
   rw[hq];rfl)
  (fun y i hi hy=>by
   have hq:vS R L v7 (cl y) v12 (i:Nat)=_:=round (by kernel_rfl) (Ac7 R L v7 (cl y) v12 (i:Nat))
   refine⟨?_,B1L hy⟩
   show vS R L v7 (cl y) v12 (i:Nat)=_
   have f1:Ac .i64 ((i:Int)+1)=((i+1:Nat):Int):=zB (by omega)
   have f2:Ac .i64 ((i:Int)+2)=((i+2 * 1:Nat):Int):=A1h 2 (by omega)
   have f3:Ac .i64 ((i:Int)+3)=((i+3 * 1:Nat):Int):=A1h 3 (by omega)
   have e4:Ac .i64 ((4:Int)+(((i+1) % 4:Nat):Int))=((4+(i+1) % 4:Nat):Int):=by rw[zI (by omega) (by omega)];omega
   have e8:Ac .i64 ((8:Int)+(((i+2 * 1) % 4:Nat):Int))=((8+(i+2 * 1) % 4:Nat):Int):=by rw[zI (by omega) (by omega)];omega
   have e12:Ac .i64 ((12:Int)+(((i+3 * 1) % 4:Nat):Int))=((12+(i+3 * 1) % 4:Nat):Int):=by rw[zI (by omega) (by omega)];omega
   rw[hq,show decide ((i:Int) < 4)=true from Ad (by omega),f1,f2,f3,tm4,tm4,tm4,e4,e8,e12,BX7 y hy _ _ _ _ (by omega) (by omega) (by omega) (by omega)]
   rfl)
  y hy).1
theorem A8U (v7:List Int) (y:List Nat) (hy:Wd 16 y):
  xT R L v7 (cl y) 0=vU R L v7 (cl (r10 y)) (cl []) 0∧Wd 16 (r10 y):=
 yX (fun (y:List Nat) i=>xT R L v7 (cl y) i) (fun _ y=>rk 1 (rk 0 y)) (fun _ y=>Wd 16 y) 10 (fun y=>vU R L v7 (cl y) (cl []) 0)
  (fun y _=>by
   have hq:xT R L v7 (cl y) (10:Nat)=_:=round (by kernel_rfl) (Ac4 R L v7 (cl y) (10:Nat))
   show xT R L v7 (cl y) (10:Nat)=_
   rw[hq];rfl)
  (fun y i hi hy=>by
   have hq:xT R L v7 (cl y) (i:Nat)=_:=round (by kernel_rfl) (Ac4 R L v7 (cl y) (i:Nat))
   refine⟨?_,B1n (B1n hy)⟩
   show xT R L v7 (cl y) (i:Nat)=_
   rw[hq,show decide ((i:Int) < 10)=true from Ad (by omega)]
   simp only[Af]
   rw[Bk7 v7 y hy,Bl1 v7 _ (B1n hy),zB (by omega)])
  y hy
end Go.Rf.S

end
section
namespace Go.Rf.S
set_option maxRecDepth 100000
theorem BO3 (v8:List Int) (k:Nat) (hk:k < 2) (v41:Int) (y:List Nat) (hy:Wd 16 y):
  qS R L v8 (cl y) (k:Int) v41 (k:Int) 0=jJ R L v8 (cl (rk k y)) v41 ((k+1:Nat):Int):=
 (yX (fun (y:List Nat) i=>qS R L v8 (cl y) (k:Int) v41 (k:Int) i) (fun i y=>qs i (4+(i+k) % 4) (8+(i+2 * k) % 4) (12+(i+3 * k) % 4) y) (fun _ y=>Wd 16 y) 4 (fun y=>jJ R L v8 (cl y) v41 ((k+1:Nat):Int))
  (fun y _=>by
   have hq:qS R L v8 (cl y) (k:Int) v41 (k:Int) (4:Nat)=_:=round (by kernel_rfl) (Au8 R L v8 (cl y) (k:Int) v41 (k:Int) (4:Nat))
   show qS R L v8 (cl y) (k:Int) v41 (k:Int) (4:Nat)=_
   rw[hq,show decide (((4:Nat):Int) < 4)=false from by decide]
   simp only[Ah]
   rw[zB (i:=k) (by omega)])
  (fun y i hi hy=>by
   have hq:qS R L v8 (cl y) (k:Int) v41 (k:Int) (i:Nat)=_:=round (by kernel_rfl) (Au8 R L v8 (cl y) (k:Int) v41 (k:Int) (i:Nat))
   refine⟨?_,B1L hy⟩
   show qS R L v8 (cl y) (k:Int) v41 (k:Int) (i:Nat)=_
   have f1:Ac .i64 ((i:Int)+(k:Int))=((i+k:Nat):Int):=A1z (by simp only[qH];omega)
   have g2:Ac .i64 ((2:Int) * (k:Int))=((2 * k:Nat):Int):=by rw[zI (by omega) (by omega)];omega
   have g3:Ac .i64 ((3:Int) * (k:Int))=((3 * k:Nat):Int):=by rw[zI (by omega) (by omega)];omega
   have f2:Ac .i64 ((i:Int)+((2 * k:Nat):Int))=((i+2 * k:Nat):Int):=A1z (by simp only[qH];omega)
   have f3:Ac .i64 ((i:Int)+((3 * k:Nat):Int))=((i+3 * k:Nat):Int):=A1z (by simp only[qH];omega)
   have e4:Ac .i64 ((4:Int)+(((i+k) % 4:Nat):Int))=((4+(i+k) % 4:Nat):Int):=by rw[zI (by omega) (by omega)];omega
   have e8:Ac .i64 ((8:Int)+(((i+2 * k) % 4:Nat):Int))=((8+(i+2 * k) % 4:Nat):Int):=by rw[zI (by omega) (by omega)];omega
   have e12:Ac .i64 ((12:Int)+(((i+3 * k) % 4:Nat):Int))=((12+(i+3 * k) % 4:Nat):Int):=by rw[zI (by omega) (by omega)];omega
   rw[hq,show decide ((i:Int) < 4)=true from Ad (by omega),g2,g3,f1,f2,f3,tm4,tm4,tm4,e4,e8,e12,zB (by omega)]
   simp only[nn,tn,Af,zO (show i < 16 by omega),zO (show 4+(i+k) % 4 < 16 by omega),zO (show 8+(i+2 * k) % 4 < 16 by omega),zO (show 12+(i+3 * k) % 4 < 16 by omega),yT]
   rw[BT7 _ _ _ _ (hy.g _) (hy.g _) (hy.g _) (hy.g _)]
   simp only[Aa,rE]
   rfl)
  y hy).1
theorem A72 (v8:List Int) (y:List Nat) (hy:Wd 16 y):
  sF R L v8 (cl y) 0=tP R L v8 (cl (r10 y)) [] 0∧Wd 16 (r10 y):=
 yX (fun (y:List Nat) i=>sF R L v8 (cl y) i) (fun _ y=>rk 1 (rk 0 y)) (fun _ y=>Wd 16 y) 10 (fun y=>tP R L v8 (cl y) [] 0)
  (fun y _=>by
   have hq:sF R L v8 (cl y) (10:Nat)=_:=round (by kernel_rfl) (At3 R L v8 (cl y) (10:Nat))
   show sF R L v8 (cl y) (10:Nat)=_
   rw[hq];rfl)
  (fun y i hi hy=>by
   have hq:sF R L v8 (cl y) (i:Nat)=_:=round (by kernel_rfl) (At3 R L v8 (cl y) (i:Nat))
   refine⟨?_,B1n (B1n hy)⟩
   show sF R L v8 (cl y) (i:Nat)=_
   have q2:∀ (y:List Int) (v:Int) (w:Int),jJ R L v8 y v w=_:=fun y v w=>round (by kernel_rfl) (A54 R L v8 y v w)
   have e0:=BO3 v8 0 (by decide) (i:Int) y hy
   have e1:=BO3 v8 1 (by decide) (i:Int) _ (B1n (k:=0) hy)
   rw[hq,show decide ((i:Int) < 10)=true from Ad (by omega)]
   simp only[Af]
   rw[q2,show decide ((0:Int) < 2)=true from by decide]
   simp only[Af]
   refine AJ e0 ?_
   rw[q2,show decide (((0+1:Nat):Int) < 2)=true from by decide]
   simp only[Af]
   refine AJ e1 ?_
   rw[q2,show decide (((1+1:Nat):Int) < 2)=false from by decide,zB (by omega)]
   rfl)
  y hy
theorem BK7 (x y:List Nat) (hx:Wd 16 x) (hy:Wd 16 y):
  tP R L (cl x) (cl y) (ub []) 0=some (ub (vM (stF x y) 16 0 []),())∧(vM (stF x y) 16 0 []).length=4 * 16:=
 yX (fun (o:List Nat) i=>tP R L (cl x) (cl y) (ub o) i) (stF x y) (fun i o=>o.length=4 * i) 16 (fun o=>some (ub o,()))
  (fun o _=>by
   have hq:tP R L (cl x) (cl y) (ub o) (16:Nat)=_:=round (by kernel_rfl) (Ax8 R L (cl x) (cl y) (ub o) (16:Nat))
   show tP R L (cl x) (cl y) (ub o) (16:Nat)=_
   rw[hq];rfl)
  (fun o i hi ho=>by
   have hq:tP R L (cl x) (cl y) (ub o) (i:Nat)=_:=round (by kernel_rfl) (Ax8 R L (cl x) (cl y) (ub o) (i:Nat))
   have hl:=AF1 ((y.getD i 0+x.getD i 0) % 4294967296) 4 (by decide)
   refine⟨?_,by unfold stF;rw[Ai,ho,hl];omega⟩
   show tP R L (cl x) (cl y) (ub o) (i:Nat)=_
   have hul:∀ l:List Nat,(ub l).length=l.length:=fun l=>As _
   rw[hq,show decide ((i:Int) < 16)=true from Ad (by omega),zB (by omega)]
   simp only[nn,tn,Af,zO (show i < 16 from hi),yT,Bw1]
   rw[qP (Bx (vY _) (by decide)),show uH R _ 4=_ from AY9 ((y.getD i 0+x.getD i 0) % 4294967296) 4 (by decide)]
   simp only[Aa]
   rw[hul,hul,hl,wF (by omega)]
   simp only[Af]
   unfold stF ub
   rw[AQ])
  [] rfl
theorem BJ3 (V:List UInt8) (hV:V.length=64) (y0:List Nat) (hy:y0.length=16):
  rQ R L V (cl y0) (cl y0) 0=sF R L (cl (vM (fun i y=>y.set i (wLE V (4 * i))) 16 0 y0)) (cl (vM (fun i y=>y.set i (wLE V (4 * i))) 16 0 y0)) 0:=
 (yX (fun (y:List Nat) i=>rQ R L V (cl y) (cl y) i) (fun i y=>y.set i (wLE V (4 * i))) (fun _ y=>y.length=16) 16 (fun y=>sF R L (cl y) (cl y) 0)
  (fun y _=>by
   have hq:rQ R L V (cl y) (cl y) (16:Nat)=_:=round (by kernel_rfl) (Ax3 R L V (cl y) (cl y) (16:Nat))
   show rQ R L V (cl y) (cl y) (16:Nat)=_
   rw[hq];rfl)
  (fun y i hi hy=>by
   have hq:rQ R L V (cl y) (cl y) (i:Nat)=_:=round (by kernel_rfl) (Ax3 R L V (cl y) (cl y) (i:Nat))
   refine⟨?_,by rw[B5];exact hy⟩
   show rQ R L V (cl y) (cl y) (i:Nat)=_
   have e4:Ac .i64 ((4:Int) * (i:Int))=((4 * i:Nat):Int):=by rw[zI (by omega) (by omega)];omega
   have hs:(y.set i (wLE V (4 * i))).getD i 0=wLE V (4 * i):=by
    rw[Ag,AC,A1 rfl,A1 (by omega)];rfl
   rw[hq,show decide ((i:Int) < 16)=true from Ad (by omega),e4,zB (by omega)]
   simp only[nn,tn,Af]
   rw[BE8 (Aj _),BE8 (show 4 * i≤V.length by omega),A9,Aw5 _ (by rw[Au];omega),A9X]
   simp only[Af,Aa]
   rw[zO (show i < 16 from hi),rE,yT,hs,rE]
   rfl)
  y0 hy).1
theorem Bn7 (key nonce:List UInt8) (hk:key.length=32) (hn:nonce.length=12) (count:Nat) (hc:count < 4294967296):
  vM (fun i y=>y.set i (wLE (((exC++key)++ub (lit count 4))++nonce) (4 * i))) 16 0 (Ab 16 0)=chI key nonce count:=by
 have hl:(ub (lit count 4)).length=4:=by unfold ub;rw[As,AF1 _ _ (by decide)]
 have he:exC.length=16:=rfl
 have h1:(exC++key).length=48:=by rw[Ai];omega
 have h2:((exC++key)++ub (lit count 4)).length=52:=by rw[Ai];omega
 show [wLE _ 0,wLE _ 4,wLE _ 8,wLE _ 12,wLE _ 16,wLE _ 20,wLE _ 24,wLE _ 28,wLE _ 32,wLE _ 36,wLE _ 40,wLE _ 44,wLE _ 48,wLE _ 52,wLE _ 56,wLE _ 60]=_
 have a0:∀ i,i+3 < 16→wLE (((exC++key)++ub (lit count 4))++nonce) i=wLE exC i:=fun i hi=>by
  rw[AV3 (by omega),AV3 (by omega),AV3 (by omega)]
 have a1:∀ j,j+3 < 32→wLE (((exC++key)++ub (lit count 4))++nonce) (16+j)=wLE key j:=fun j hj=>by
  rw[AV3 (by omega),AV3 (by omega),A39 (j:=j) (by omega)]
 have a2:wLE (((exC++key)++ub (lit count 4))++nonce) 48=count:=by
  rw[AV3 (by omega),A39 (j:=0) (by omega),B1Z _ hc]
 have a3:∀ j,wLE (((exC++key)++ub (lit count 4))++nonce) (52+j)=wLE nonce j:=fun j=>by
  rw[A39 (j:=j) (by omega)]
 rw[a0 0 (by decide),a0 4 (by decide),a0 8 (by decide),a0 12 (by decide),a1 0 (by decide),a1 4 (by decide),a1 8 (by decide),a1 12 (by decide),a1 16 (by decide),a1 20 (by decide),a1 24 (by decide),a1 28 (by decide),a2,a3 0,a3 4,a3 8]
 rfl
theorem A3U (key nonce:List UInt8) (hk:key.length=32) (hn:nonce.length=12) (count:Nat) (hc:count < 4294967296):
  AF7 R key nonce (count:Int)=some (ub (chO (chI key nonce count)),())∧(ub (chO (chI key nonce count))).length=64:=by
 have hq:AF7 R key nonce (count:Int)=_:=call (BE3 R L key nonce (count:Int))
 have hl:(ub (lit count 4)).length=4:=by unfold ub;rw[As,AF1 _ _ (by decide)]
 have he:exC.length=16:=rfl
 have h1:(exC++key).length=48:=by rw[Ai];omega
 have h2:((exC++key)++ub (lit count 4)).length=52:=by rw[Ai];omega
 have hW:=B27 key nonce count hc
 obtain⟨r1,r2⟩:=A72 (cl (chI key nonce count)) _ hW
 obtain⟨b1,b2⟩:=BK7 _ _ hW r2
 refine⟨?_,by unfold ub;rw[As];exact b2⟩
 rw[hq,show uH R (count:Int) 4=_ from AY9 count 4 (by decide)]
 show cond (yI (exC.length+key.length)) (cond (yI ((exC++key).length+(ub (lit count 4)).length)) (cond (yI (((exC++key)++ub (lit count 4)).length+nonce.length)) (rQ R L (((exC++key)++ub (lit count 4))++nonce) (cl (Ab 16 0)) (cl (Ab 16 0)) 0) none) none) none=_
 rw[wF (by omega),wF (by omega),wF (by omega)]
 simp only[Af]
 rw[BJ3 _ (by rw[Ai];omega) _ rfl,Bn7 key nonce hk hn count hc,r1]
 exact b1
end Go.Rf.S

end
section
namespace Go.Rf.S
set_option maxRecDepth 100000
theorem B0s (o:List Nat) (ho:o.length≤1048576) (w:Nat):AC3 R (cl o) (w:Int)=some (cl (o++lit w 4),()):=by
 have hq:AC3 R (cl o) (w:Int)=_:=call (A5o R L (cl o) (w:Int))
 have m24:Ay (Am 24) (Al .i64)=24:=rfl
 have m16:Ay (Am 16) (Al .i64)=16:=rfl
 have m8:Ay (Am 8) (Al .i64)=8:=rfl
 rw[hq,m24,m16,m8,fI,fI,fI,qK,qK,qK,qK,wF (by rw[cH];simp only[Ak,Ao];omega)]
 simp only[Af]
 rw[show [((w % 256:Nat):Int),((w / 2 ^ 8 % 256:Nat):Int),((w / 2 ^ 16 % 256:Nat):Int),((w / 2 ^ 24 % 256:Nat):Int)]=cl [w % 256,w / 2 ^ 8 % 256,w / 2 ^ 16 % 256,w / 2 ^ 24 % 256] from rfl,Ak7]
 have:lit w 4=[w / 2 ^ 0 % 256,w / 2 ^ 8 % 256,w / 2 ^ 16 % 256,w / 2 ^ 24 % 256]:=rfl
 rw[this,AF,AO]
theorem A78 (x y:List Nat) (hx:Wd 16 x) (hy:Wd 16 y):
  vU R L (cl x) (cl y) (cl []) 0=some (ub (vM (stF x y) 16 0 []),())∧(vM (stF x y) 16 0 []).length=4 * 16:=
 yX (fun (o:List Nat) i=>vU R L (cl x) (cl y) (cl o) i) (stF x y) (fun i o=>o.length=4 * i) 16 (fun o=>some (ub o,()))
  (fun o _=>by
   have hq:vU R L (cl x) (cl y) (cl o) (16:Nat)=_:=round (by kernel_rfl) (Ad0 R L (cl x) (cl y) (cl o) (16:Nat))
   show vU R L (cl x) (cl y) (cl o) (16:Nat)=_
   rw[hq,show decide (((16:Nat):Int) < 16)=false from by decide,A0x];rfl)
  (fun o i hi ho=>by
   have hq:vU R L (cl x) (cl y) (cl o) (i:Nat)=_:=round (by kernel_rfl) (Ad0 R L (cl x) (cl y) (cl o) (i:Nat))
   have hl:=AF1 ((y.getD i 0+x.getD i 0) % 4294967296) 4 (by decide)
   have ay:=hy.g i;have ax:=hx.g i
   refine⟨?_,by unfold stF;rw[Ai,ho,hl];omega⟩
   show vU R L (cl x) (cl y) (cl o) (i:Nat)=_
   rw[hq,show decide ((i:Int) < 16)=true from Ad (by omega),zB (by omega)]
   simp only[nn,tn,Af,zO (show i < 16 from hi),yT]
   rw[A1z (by simp only[qH];omega),m32 (by omega),B0s o (by omega)]
   rfl)
  [] rfl
theorem A2i (key nonce:List UInt8) (hk:key.length=32) (hn:nonce.length=12) (count:Nat) (hc:count < 4294967296):
  mE R key nonce (count:Int)=some (ub (chO (chI key nonce count)),()):=by
 have hW:=B27 key nonce count hc
 obtain⟨r1,r2⟩:=A8U (cl (chI key nonce count)) _ hW
 rw[B20 key nonce hk hn count,r1]
 exact (A78 _ _ hW r2).1
end Go.Rf.S

end
section
namespace Go.Rf.S
set_option maxRecDepth 100000
def bn (t:List UInt8):List Nat:=AB Bj t
theorem B3x (t:List UInt8):AB (fun b:UInt8=>((b.toNat:Nat):Int)) t=cl (bn t):=by
 unfold cl bn;rw[Bb];rfl
theorem By9 (t:List UInt8):(bn t).length=t.length:=As _
theorem B0I (t:List UInt8) (i:Nat):(bn t).getD i 0=bt t i:=by
 unfold bn bt
 rw[Ag,Ag,AX]
 cases t[i]?<;>rfl
theorem BS5 {a b:List UInt8} (hl:a.length=b.length) (h:∀ i,i < a.length→bt a i=bt b i):a=b:=by
 apply List.ext_getElem hl
 intro i h1 h2
 have:=h i h1
 unfold bt at this
 rw[Ag,Ag,AY h1,AY h2] at this
 exact UInt8.toNat_inj.1 this
theorem B3D {l:List Nat} {i:Nat} (h:l.getD i 0 < 256):bt (ub l) i=l.getD i 0:=by
 unfold bt ub
 rw[Ag,Ag,AX]
 rw[Ag] at h
 cases e:l[i]? with
 | none=>rfl
 | some x=>
  rw[e] at h
  have h:x < 256:=h
  show (Ax x).toNat=x
  rw[Bt]
  exact At h
theorem Ai1:∀ (a b:List UInt8),a.length≤b.length→(BM9 a b).length=a.length
 | [],_,_=>rfl
 | x :: a,[],h=>by simp at h
 | x :: a,y :: b,h=>by
  show (BM9 a b).length+1=_
  rw[Ai1 a b (by simpa using h)];rfl
theorem AR6 (x:UInt8) (a:List UInt8) (i:Nat):bt (x :: a) (i+1)=bt a i:=rfl
theorem A4P:∀ (a b:List UInt8) (i:Nat),i < a.length→a.length≤b.length→bt (BM9 a b) i=bt a i ^^^ bt b i
 | [],_,_,h,_=>by simp at h
 | x :: a,[],_,_,h=>by simp at h
 | x :: a,y :: b,0,_,h=>by
  show (x ^^^ y).toNat=_
  exact UInt8.toNat_xor x y
 | x :: a,y :: b,i+1,hi,h=>by
  show bt ((x ^^^ y) :: BM9 a b) (i+1)=_
  rw[AR6,AR6,AR6]
  exact A4P a b i (by simpa using hi) (by simpa using h)
def stX (b:List UInt8) (i:Nat) (y:List Nat):List Nat:=y.set i (y.getD i 0 ^^^ bt b i)
theorem Bu0 {a b:Nat} (ha:a < 256) (hb:b < 256):a ^^^ b < 256:=Nat.xor_lt_two_pow (n:=8) ha hb
theorem B3U (a b:List UInt8) (h:a.length≤b.length) (hb:b.length≤4294967296):A7a R a b=some (BM9 a b,()):=by
 have hq:A7a R a b=_:=call (B06 R L a b)
 have hlp:=yX (fun (y:List Nat) i=>gN R L b (cl y) (a.length:Int) i) (stX b)
  (fun i y=>y.length=a.length∧∀ j,y.getD j 0=if j < i then bt a j ^^^ bt b j else bt a j) a.length (fun y=>some (ub y,()))
  (fun y _=>by
   have hq:gN R L b (cl y) (a.length:Int) (a.length:Nat)=_:=round (by kernel_rfl) (A6O R L b (cl y) (a.length:Int) (a.length:Nat))
   show gN R L b (cl y) (a.length:Int) (a.length:Nat)=_
   rw[hq,Ae (show ¬ ((a.length:Int) < (a.length:Int)) by omega),A0x];rfl)
  (fun y i hi hy=>by
   obtain⟨h1,h2⟩:=hy
   have hq:gN R L b (cl y) (a.length:Int) (i:Nat)=_:=round (by kernel_rfl) (A6O R L b (cl y) (a.length:Int) (i:Nat))
   have hyi:=h2 i
   rw[A3 (Nat.lt_irrefl i)] at hyi
   refine⟨?_,by unfold stX;rw[B5];exact h1,fun j=>?_⟩
   ·show gN R L b (cl y) (a.length:Int) (i:Nat)=_
    rw[hq,Ad (show (i:Int) < (a.length:Int) by omega),zB (by omega)]
    simp only[nn,tn,Af,cH,h1,zO hi,zO (show i < b.length by omega),yT]
    have e:wB .xor .u8 ((y.getD i 0:Nat):Int) (((b.getD i 0).toNat:Nat):Int)=((y.getD i 0 ^^^ bt b i:Nat):Int):=A3c (k:=.u8) (by rw[hyi];exact oF a i) (oF b i)
    rw[e,rE]
    rfl
   ·unfold stX
    by_cases hj:j=i
    ·subst hj
     rw[A1 (Nat.lt_succ_self _),Ag,AC,A1 rfl,A1 (by omega),hyi];rfl
    ·rw[Ag,AC,A3 (fun e=>hj e.symm),← Ag,h2 j]
     by_cases hji:j < i
     ·rw[A1 hji,A1 (by omega)]
     ·rw[A3 hji,A3 (by omega)])
  (bn a) ⟨By9 a,fun j=>by rw[A3 (by omega),B0I]⟩
 obtain⟨e1,e2,e3⟩:=hlp
 rw[hq,B3x,cH,By9]
 refine AJ e1 ?_
 refine AE (fun x=>some (x,())) ?_
 apply BS5
 ·unfold ub;rw[As,e2,Ai1 a b h]
 ·intro i hi
  have hi':i < a.length:=by unfold ub at hi;rw[As,e2] at hi;exact hi
  have hv:=e3 i
  rw[A1 hi'] at hv
  rw[B3D (by rw[hv];exact Bu0 (oF _ _) (oF _ _)),hv,A4P a b i hi' h]
theorem Ag1 {key nonce:List UInt8} (hk:key.length=32) (hn:nonce.length=12) {count:Nat} (hc:count < 4294967296):(chB key nonce count).length=64:=by
 unfold chB;exact (A3U key nonce hk hn count hc).2
theorem A0e (key nonce:List UInt8) (hk:key.length=32) (hn:nonce.length=12):∀ (n count:Nat) (t:List UInt8),t.length≤64 * n→count+n < 4294967296 →
  (chX key nonce n count t).length=t.length∧∀ i,i < t.length→bt (chX key nonce n count t) i=bt t i ^^^ bt (chB key nonce (count+i / 64)) (i % 64)
 | 0,count,t,ht,_=>by
  have:t.length=0:=by omega
  exact⟨by rw[this];rfl,fun i hi=>by omega⟩
 | n+1,count,t,ht,hc=>by
  unfold chX
  by_cases h0:t=[]
  ·subst h0
   rw[A1 rfl]
   exact⟨rfl,fun i hi=>by simp at hi⟩
  ·rw[A3 h0]
   have hB:(chB key nonce count).length=64:=Ag1 hk hn (by omega)
   have hx:(BM9 (t.take 64) (chB key nonce count)).length=(t.take 64).length:=Ai1 _ _ (by rw[A2];omega)
   obtain⟨r1,r2⟩:=A0e key nonce hk hn n (count+1) (t.drop 64) (by rw[Au];omega) (by omega)
   have htk:(t.take 64).length=min 64 t.length:=A2
   refine⟨by rw[Ai,hx,r1,Au,htk];omega,fun i hi=>?_⟩
   by_cases hi64:i < 64
   ·rw[Ar0 (by rw[hx,htk];omega),A4P _ _ _ (by rw[htk];omega) (by rw[htk];omega),show i / 64=0 by omega,show i % 64=i by omega]
    have:bt (t.take 64) i=bt t i:=by unfold bt;rw[AF2 t hi64]
    rw[this];rfl
   ·rw[Ap7 (by rw[hx,htk];omega),hx,htk,show min 64 t.length=64 by omega,r2 (i - 64) (by rw[Au];omega)]
    have e1:bt (t.drop 64) (i - 64)=bt t i:=by unfold bt;rw[Ag,Ag,AH,show 64+(i - 64)=i by omega]
    rw[e1,show count+1+(i - 64) / 64=count+i / 64 by omega,show (i - 64) % 64=i % 64 by omega]
def B0 (key nonce:List UInt8) (count i:Nat):List UInt8:=chB key nonce (count+i / 64)
def stQ (key nonce:List UInt8) (count:Nat) (t:List UInt8) (i:Nat) (s:List Nat × List UInt8):List Nat × List UInt8:=
 (s.1++[bt t i ^^^ bt (if i % 64=0 then B0 key nonce count i else s.2) (i % 64)],if i % 64=0 then B0 key nonce count i else s.2)
theorem Ba2 (key nonce:List UInt8) (hk:key.length=32) (hn:nonce.length=12) (count:Nat) (t:List UInt8) (ht:t.length≤1073741824) (hc:count≤1024):
  AH1 R key nonce (count:Int) t=some (chX key nonce (t.length / 64+1) count t,()):=by
 have hq:AH1 R key nonce (count:Int) t=_:=call (BE0 R L key nonce (count:Int) t)
 have hB:∀ i,i≤t.length→(B0 key nonce count i).length=64:=fun i hi=>Ag1 hk hn (by omega)
 have hlp:=yX (fun (s:List Nat × List UInt8) i=>qR R L key nonce (count:Int) t (cl s.1) s.2 i) (stQ key nonce count t)
  (fun i s=>s.1.length=i∧(i % 64≠0→s.2=B0 key nonce count i)∧∀ j,j < i→s.1.getD j 0=bt t j ^^^ bt (B0 key nonce count j) (j % 64)) t.length (fun s=>some (ub s.1,()))
  (fun s _=>by
   have hq:qR R L key nonce (count:Int) t (cl s.1) s.2 (t.length:Nat)=_:=round (by kernel_rfl) (Ax1 R L key nonce (count:Int) t (cl s.1) s.2 (t.length:Nat))
   show qR R L key nonce (count:Int) t (cl s.1) s.2 (t.length:Nat)=_
   rw[hq,Ae (show ¬ ((t.length:Int) < (t.length:Int)) by omega),A0x];rfl)
  (fun s i hi hs=>by
   obtain⟨h1,h2,h3⟩:=hs
   have hq:qR R L key nonce (count:Int) t (cl s.1) s.2 (i:Nat)=_:=round (by kernel_rfl) (Ax1 R L key nonce (count:Int) t (cl s.1) s.2 (i:Nat))
   have hBi:=hB i (by omega)
   have em:A7 (i:Int) 64=((i % 64:Nat):Int):=BO5 i 64
   have ed:By (i:Int) 64=((i / 64:Nat):Int):=rfl
   have hm:i % 64 < 64:=Av _ (by decide)
   have bx:∀ (B:List UInt8),wB .xor .u8 (((t.getD i 0).toNat:Nat):Int) (((B.getD (i % 64) 0).toNat:Nat):Int)=((bt t i ^^^ bt B (i % 64):Nat):Int):=fun B=>A3c (k:=.u8) (oF t i) (oF B _)
   have hcase:(if i % 64=0 then B0 key nonce count i else s.2)=B0 key nonce count i:=by
    by_cases h0:i % 64=0
    ·rw[A1 h0]
    ·rw[A3 h0,h2 h0]
   refine⟨?_,?_,?_,?_⟩
   ·show qR R L key nonce (count:Int) t (cl s.1) s.2 (i:Nat)=_
    rw[hq,Ad (show (i:Int) < (t.length:Int) by omega),em,ed]
    unfold stQ
    rw[hcase]
    by_cases h0:i % 64=0
    ·rw[show eqI ((i % 64:Nat):Int) 0=true from by rw[yU];exact Ad (by omega),qP (n:=i / 64) (by omega),A1z (by simp only[qH];omega),show mE R key nonce ((count+i / 64:Nat):Int)=some (B0 key nonce count i,()) from A2i key nonce hk hn _ (by omega)]
     simp only[nn,tn,Af,Aa]
     rw[zO hi,hBi,zO hm,wF (by rw[cH];simp only[Ak,Ao];omega),bx,zB (by omega)]
     simp only[Af]
     rw[show [((bt t i ^^^ bt (B0 key nonce count i) (i % 64):Nat):Int)]=cl [bt t i ^^^ bt (B0 key nonce count i) (i % 64)] from rfl,Ak7]
    ·rw[show eqI ((i % 64:Nat):Int) 0=false from by rw[yU];exact Ae (by omega),h2 h0]
     simp only[nn,tn,Af,Ah]
     rw[zO hi,hBi,zO hm,wF (by rw[cH];simp only[Ak,Ao];omega),bx,zB (by omega)]
     simp only[Af]
     rw[show [((bt t i ^^^ bt (B0 key nonce count i) (i % 64):Nat):Int)]=cl [bt t i ^^^ bt (B0 key nonce count i) (i % 64)] from rfl,Ak7]
   ·unfold stQ;rw[Ai,h1];rfl
   ·intro h0
    unfold stQ
    rw[hcase]
    unfold B0
    rw[show (i+1) / 64=i / 64 by omega]
   ·intro j hj
    unfold stQ
    rw[hcase]
    by_cases hji:j=i
    ·subst hji
     rw[Ag,AD (by omega),h1,Bf];rfl
    ·rw[Ag,AW (by omega),← Ag]
     exact h3 j (by omega))
  ([],[]) ⟨rfl,fun h=>absurd rfl h,fun j hj=>by omega⟩
 obtain⟨e1,e2,_,e3⟩:=hlp
 obtain⟨r1,r2⟩:=A0e key nonce hk hn (t.length / 64+1) count t (by omega) (by omega)
 rw[hq]
 refine AJ e1 ?_
 refine AE (fun x=>some (x,())) ?_
 have hul:∀ l:List Nat,(ub l).length=l.length:=fun l=>As _
 apply BS5
 ·rw[hul,e2,r1]
 ·intro i hi
  rw[hul,e2] at hi
  have hv:=e3 i hi
  rw[B3D (by rw[hv];exact Bu0 (oF _ _) (oF _ _)),hv,r2 i hi]
  rfl
end Go.Rf.S

end
section

end
section
namespace Go.Rf.S
set_option maxRecDepth 100000
theorem BI4 {x:List Nat} (h:x.length=5):x=[x.getD 0 0,x.getD 1 0,x.getD 2 0,x.getD 3 0,x.getD 4 0]:=by
 match x,h with
 | [a,b,c,d,e],_=>rfl
def crd (x:List Nat):List Nat:=car (x.getD 0 0) (x.getD 1 0) (x.getD 2 0) (x.getD 3 0) (x.getD 4 0)
def CAR (x:List Nat):List Nat:=crd (crd (crd x))
def vl (x:List Nat):Nat:=val (x.getD 0 0) (x.getD 1 0) (x.getD 2 0) (x.getD 3 0) (x.getD 4 0)
structure Can (x:List Nat):Prop where
 l:x.length=5
 b:Bd 67108864 x
theorem bd5 {B a b c d e:Nat} (ha:a < B) (hb:b < B) (hc:c < B) (hd:d < B) (he:e < B):Bd B [a,b,c,d,e]:=fun x hx=>by
 simp only[Br,B1,or_false] at hx
 rcases hx with rfl|rfl|rfl|rfl|rfl<;>assumption
theorem A6H {x:List Nat} (h:x.length=5) (hb:Bd 288230376151711744 x):Can (CAR x)∧vl (CAR x) % PP=vl x % PP∧(crd x).length=5∧Bd 1152921504606846976 (crd x)∧(crd (crd x)).length=5∧Bd 1152921504606846976 (crd (crd x)):=by
 have g:=fun i=>hb.get (by decide) i
 obtain⟨a1,b1,c1,d1,e1,a2,b2,c2,d2,e2,a3,b3,c3,d3,e3,h1,h2,h3,hv,q0,q1,q2,q3,q4,r0,r1,r2,r3,r4,s0,s1,s2,s3,s4⟩:=B4f (x.getD 0 0) (x.getD 1 0) (x.getD 2 0) (x.getD 3 0) (x.getD 4 0) (g 0) (g 1) (g 2) (g 3) (g 4)
 have e1:crd x=[a1,b1,c1,d1,e1]:=h1
 have e2:crd (crd x)=[a2,b2,c2,d2,e2]:=by rw[e1];exact h2
 have e3:CAR x=[a3,b3,c3,d3,e3]:=by unfold CAR;rw[e2];exact h3
 refine⟨⟨by rw[e3];rfl,by rw[e3];exact bd5 q0 q1 q2 q3 q4⟩,by rw[e3];exact hv,by rw[e1];rfl,?_,by rw[e2];rfl,?_⟩
 ·rw[e1];exact bd5 r0 (by omega) (by omega) (by omega) (by omega)
 ·rw[e2];exact bd5 s0 (by omega) (by omega) (by omega) (by omega)
theorem Bv0 {x:List Nat} (h:Can x):CAR x=x:=by
 have g:=fun i=>h.b.get (by decide) i
 have e:crd x=x:=by
  have:=B2l (g 0) (g 1) (g 2) (g 3) (g 4)
  exact this.trans (BI4 h.l).symm
 unfold CAR
 rw[e,e,e]
theorem Bq7 (l:List Nat) (i a:Nat) (z:Int) (h:z=(a:Int)):(cl l).set i z=cl (l.set i a):=by rw[h,rE]
def B4U (i:Nat) (s:List Nat × Nat):List Nat × Nat:=(s.1.set i ((s.1.getD i 0+s.2) % 67108864),(s.1.getD i 0+s.2) / 67108864)
theorem AJ2 (v2:List Int) (j:Int) (x:List Nat) (hx:x.length=5) (hb:Bd 1152921504606846976 x):
  wK R L (cl x) v2 (0:Int) j (0:Int)=sL R L (cl (crd x)) v2 (Ac .i64 (j+1)):=by
 have:=(yX (fun (s:List Nat × Nat) i=>wK R L (cl s.1) v2 (s.2:Int) j i) B4U
  (fun i s=>s.1.length=5∧Bd 1152921504606846976 s.1∧s.2 < 68719476736) 5
  (fun s=>sL R L (cl (s.1.set 0 (s.1.getD 0 0+5 * s.2))) v2 (Ac .i64 (j+1)))
  (fun s hs=>by
   obtain⟨h1,h2,h3⟩:=hs
   have hq:wK R L (cl s.1) v2 (s.2:Int) j (5:Nat)=_:=round (by kernel_rfl) (aO R L (cl s.1) v2 (s.2:Int) j (5:Nat))
   have hg:=h2.get (by decide) 0
   show wK R L (cl s.1) v2 (s.2:Int) j (5:Nat)=_
   rw[hq,show decide (((5:Nat):Int) < 5)=false from by decide]
   simp only[Ah]
   rw[Bq7 _ _ (s.1.getD 0 0+5 * s.2)]
   ·rfl
   ·show Ac .u64 ((cl s.1).getD 0 0+Ac .u64 (5 * (s.2:Int)))=_
    rw[yT,A3b,A3b]
    omega)
  (fun s i hi hs=>by
   obtain⟨h1,h2,h3⟩:=hs
   have hq:wK R L (cl s.1) v2 (s.2:Int) j (i:Nat)=_:=round (by kernel_rfl) (aO R L (cl s.1) v2 (s.2:Int) j (i:Nat))
   have hg:=h2.get (by decide) i
   refine⟨?_,by simp[B4U,h1],h2.set (Ar (Av _ (by decide)) (by decide)),?_⟩
   ·show wK R L (cl s.1) v2 (s.2:Int) j (i:Nat)=_
    have hw:Ac .u64 ((cl s.1).getD i 0+(s.2:Int))=((s.1.getD i 0+s.2:Nat):Int):=by
     rw[yT,A3b];omega
    have hgs:((cl s.1).set i ((s.1.getD i 0+s.2:Nat):Int)).getD i 0=((s.1.getD i 0+s.2:Nat):Int):=by
     rw[rE,yT,Ag,AC]
     simp[h1,hi]
    rw[hq,show decide ((i:Int) < 5)=true from Ad (by omega),nn,tn,zO (n:=5) hi]
    simp only[Af]
    rw[hw,hgs,zB (by omega),List.set_set,show wB .and .u64 ((s.1.getD i 0+s.2:Nat):Int) 67108863=(((s.1.getD i 0+s.2) % 67108864:Nat):Int) from by
     rw[show (67108863:Int)=((67108863:Nat):Int) from rfl,Ae8 (by simp only[qH];omega) (by decide),BO9],rE]
    rw[show AZ ((s.1.getD i 0+s.2:Nat):Int) (2 ^ Ay (Am 26) (Al .u64))=(((s.1.getD i 0+s.2) / 67108864:Nat):Int) from fI _ 26]
    rfl
   ·show (s.1.getD i 0+s.2) / 67108864 < 68719476736
    omega)
  (x,0) ⟨hx,hb,(by decide:(0:Nat) < 68719476736)⟩).1
 refine this.trans ?_
 obtain⟨a,b,c,d,e,rfl⟩:∃ a b c d e,x=[a,b,c,d,e]:=⟨_,_,_,_,_,BI4 hx⟩
 rfl
theorem Af9 (x:List Nat) (hx:x.length=5) (hb:Bd 288230376151711744 x):vB R (cl x)=some (cl (CAR x),()):=by
 have hq:vB R (cl x)=_:=call (Aq1 R L (cl x))
 obtain⟨_,_,l1,b1,l2,b2⟩:=A6H hx hb
 have b0:Bd 1152921504606846976 x:=fun y hy=>Ar (hb y hy) (by decide)
 have q0:∀ (y:List Int) (v2:List Int) (j:Int),sL R L y v2 j=_:=fun y v2 j=>round (by kernel_rfl) (Af6 R L y v2 j)
 rw[hq,q0,show decide ((0:Int) < 3)=true from rfl]
 simp only[Af]
 rw[AJ2 _ _ x hx b0,q0,show decide (Ac .i64 ((0:Int)+1) < 3)=true from by decide]
 simp only[Af]
 rw[AJ2 _ _ _ l1 b1,q0,show decide (Ac .i64 (Ac .i64 ((0:Int)+1)+1) < 3)=true from by decide]
 simp only[Af]
 rw[AJ2 _ _ _ l2 b2,q0,show decide (Ac .i64 (Ac .i64 (Ac .i64 ((0:Int)+1)+1)+1) < 3)=false from by decide]
 rfl
end Go.Rf.S

end
section
namespace Go.Rf.S
set_option maxRecDepth 100000
theorem kW {l:List Nat} {i j a:Nat} (h:i≠j):(l.set i a).getD j 0=l.getD j 0:=by
 rw[Ag,Ag,AC,A3 h]
theorem uP {k:IntKind} {a b:Nat} (h:a+b < qH k):Ac k ((a:Int)+(b:Int))=((a+b:Nat):Int):=by
 rw[show (a:Int)+(b:Int)=((a+b:Nat):Int) from by omega,Ak0 h]
theorem dB {k:IntKind} {a b:Nat} (h:a * b < qH k):Ac k ((a:Int) * (b:Int))=((a * b:Nat):Int):=by
 rw[show (a:Int) * (b:Int)=((a * b:Nat):Int) from by simp,Ak0 h]
theorem m26 {k:IntKind} {a:Nat} (h:a < qH k) (hk:67108863 < qH k):wB .and k (a:Int) 67108863=((a % 67108864:Nat):Int):=by
 rw[show (67108863:Int)=((67108863:Nat):Int) from rfl,Ae8 h hk,BO9]
def B2k (i:Nat) (x:List Nat):List Nat:=(x.set (i+1) (x.getD (i+1) 0+x.getD i 0 / 67108864)).set i (x.getD i 0 % 67108864)
theorem AL1 (v2:List Int) (j:Int) (x:List Nat) (hx:x.length=5) (hb:Bd 1152921504606846976 x):
  tT R L (cl x) v2 j (0:Int)=nY R L (cl (crd x)) v2 (Ac .i64 (j+1)):=by
 have:=(yX (fun (x:List Nat) i=>tT R L (cl x) v2 j i) B2k
  (fun i x=>x.length=5∧Bd (1152921504606846976+i * 1099511627776) x) 4
  (fun x=>nY R L (cl ((x.set 0 (x.getD 0 0+5 * (x.getD 4 0 / 67108864))).set 4 (x.getD 4 0 % 67108864))) v2 (Ac .i64 (j+1)))
  (fun x hs=>by
   obtain⟨h1,h2⟩:=hs
   have hq:tT R L (cl x) v2 j (4:Nat)=_:=round (by kernel_rfl) (AZ7 R L (cl x) v2 j (4:Nat))
   have hg:=h2.get (by decide) 0
   have hg4:=h2.get (by decide) 4
   show tT R L (cl x) v2 j (4:Nat)=_
   rw[hq,show decide (((4:Nat):Int) < 4)=false from by decide]
   simp only[Ah]
   have e0:Am 0=0:=rfl
   have e4:Am 4=4:=rfl
   have ed:AZ ((cl x).getD 4 0) (2 ^ Ay (Am 26) (Al .i64))=((x.getD 4 0 / 67108864:Nat):Int):=by rw[yT];exact fI _ 26
   have ew:Ac .i64 ((cl x).getD 0 0+Ac .i64 (5 * ((x.getD 4 0 / 67108864:Nat):Int)))=((x.getD 0 0+5 * (x.getD 4 0 / 67108864):Nat):Int):=by
    rw[show (5:Int)=((5:Nat):Int) from rfl,dB (by simp only[qH];omega),yT,uP (by simp only[qH];omega)]
   rw[e0,e4,ed,ew,rE,yT,kW (by decide),m26 (by simp only[qH];omega) (by decide),rE])
  (fun x i hi hs=>by
   obtain⟨h1,h2⟩:=hs
   have hq:tT R L (cl x) v2 j (i:Nat)=_:=round (by kernel_rfl) (AZ7 R L (cl x) v2 j (i:Nat))
   have hpos:0 < 1152921504606846976+i * 1099511627776:=by omega
   have hg:=h2.get hpos i
   have hg1:=h2.get hpos (i+1)
   have hmono:Bd (1152921504606846976+(i+1) * 1099511627776) x:=fun y hy=>Ar (h2 y hy) (by omega)
   refine⟨?_,by simp[B2k,h1],(hmono.set (by omega)).set (Ar (Av _ (by decide)) (by omega))⟩
   show tT R L (cl x) v2 j (i:Nat)=_
   have ed:AZ ((cl x).getD i 0) (2 ^ Ay (Am 26) (Al .i64))=((x.getD i 0 / 67108864:Nat):Int):=by rw[yT];exact fI _ 26
   rw[hq,show decide ((i:Int) < 4)=true from Ad (by omega),zB (by omega),nn,tn,nn,tn,zO (n:=5) (show i+1 < 5 by omega),zO (n:=5) (show i < 5 by omega)]
   simp only[Af]
   rw[ed,yT,uP (by simp only[qH];omega),rE,yT,kW (by omega),m26 (by simp only[qH];omega) (by decide),rE]
   rfl)
  x ⟨hx,by simpa using hb⟩).1
 refine this.trans ?_
 obtain⟨a,b,c,d,e,rfl⟩:∃ a b c d e,x=[a,b,c,d,e]:=⟨_,_,_,_,_,BI4 hx⟩
 rfl
theorem A55 (x:List Nat) (hx:x.length=5) (hb:Bd 288230376151711744 x):kG R (cl x)=some (cl (CAR x),()):=by
 have hq:kG R (cl x)=_:=call (A4u R L (cl x))
 obtain⟨_,_,l1,b1,l2,b2⟩:=A6H hx hb
 have b0:Bd 1152921504606846976 x:=fun y hy=>Ar (hb y hy) (by decide)
 have q0:∀ (y:List Int) (v2:List Int) (j:Int),nY R L y v2 j=_:=fun y v2 j=>round (by kernel_rfl) (A2I R L y v2 j)
 rw[hq,q0,show decide ((0:Int) < 3)=true from rfl]
 simp only[Af]
 rw[AL1 _ _ x hx b0,q0,show decide (Ac .i64 ((0:Int)+1) < 3)=true from by decide]
 simp only[Af]
 rw[AL1 _ _ _ l1 b1,q0,show decide (Ac .i64 (Ac .i64 ((0:Int)+1)+1) < 3)=true from by decide]
 simp only[Af]
 rw[AL1 _ _ _ l2 b2,q0,show decide (Ac .i64 (Ac .i64 (Ac .i64 ((0:Int)+1)+1)+1) < 3)=false from by decide]
 rfl
def TIM (x y : List Nat) : List Nat :=
  [x.getD 0 0 * y.getD 0 0 + 5 * (x.getD 1 0 * y.getD 4 0) + 5 * (x.getD 2 0 * y.getD 3 0) + 5 * (x.getD 3 0 * y.getD 2 0) + 5 * (x.getD 4 0 * y.getD 1 0),
   x.getD 0 0 * y.getD 1 0 + x.getD 1 0 * y.getD 0 0 + 5 * (x.getD 2 0 * y.getD 4 0) + 5 * (x.getD 3 0 * y.getD 3 0) + 5 * (x.getD 4 0 * y.getD 2 0),
   x.getD 0 0 * y.getD 2 0 + x.getD 1 0 * y.getD 1 0 + x.getD 2 0 * y.getD 0 0 + 5 * (x.getD 3 0 * y.getD 4 0) + 5 * (x.getD 4 0 * y.getD 3 0),
   x.getD 0 0 * y.getD 3 0 + x.getD 1 0 * y.getD 2 0 + x.getD 2 0 * y.getD 1 0 + x.getD 3 0 * y.getD 0 0 + 5 * (x.getD 4 0 * y.getD 4 0),
   x.getD 0 0 * y.getD 4 0 + x.getD 1 0 * y.getD 3 0 + x.getD 2 0 * y.getD 2 0 + x.getD 3 0 * y.getD 1 0 + x.getD 4 0 * y.getD 0 0]
theorem BX3 (x y:List Nat):(TIM x y).length=5:=rfl
theorem Bv6 (x y:List Nat):vl (TIM x y) % PP=(vl x * vl y) % PP:=by
 obtain⟨q,h⟩:=Bz6 (x.getD 0 0) (x.getD 1 0) (x.getD 2 0) (x.getD 3 0) (x.getD 4 0) (y.getD 0 0) (y.getD 1 0) (y.getD 2 0) (y.getD 3 0) (y.getD 4 0)
 show val _ _ _ _ _ % PP=(val _ _ _ _ _ * val _ _ _ _ _) % PP
 rw[h,Nat.add_mul_mod_self_right]
 rfl
theorem Bj6 {a b:Nat} (ha:a < 134217728) (hb:b < 67108864):a * b < 9007199254740992:=by
 have:a * b≤a * 67108864:=Bm _ (by omega)
 omega
theorem A9K {x y:List Nat} (hx:Bd 134217728 x) (hy:Bd 67108864 y):Bd 288230376151711744 (TIM x y):=by
 have p:=fun i j=>Bj6 (hx.get (by decide) i) (hy.get (by decide) j)
 have p00:=p 0 0;have p01:=p 0 1;have p02:=p 0 2;have p03:=p 0 3;have p04:=p 0 4
 have p10:=p 1 0;have p11:=p 1 1;have p12:=p 1 2;have p13:=p 1 3;have p14:=p 1 4
 have p20:=p 2 0;have p21:=p 2 1;have p22:=p 2 2;have p23:=p 2 3;have p24:=p 2 4
 have p30:=p 3 0;have p31:=p 3 1;have p32:=p 3 2;have p33:=p 3 3;have p34:=p 3 4
 have p40:=p 4 0;have p41:=p 4 1;have p42:=p 4 2;have p43:=p 4 3;have p44:=p 4 4
 exact bd5 (by omega) (by omega) (by omega) (by omega) (by omega)
def stT (x y:List Nat) (i k:Nat) (o:List Nat):List Nat:=
 if i+k < 5 then o.set (i+k) (o.getD (i+k) 0+x.getD i 0 * y.getD k 0) else o.set (i+k - 5) (o.getD (i+k - 5) 0+5 * (x.getD i 0 * y.getD k 0))
def Bi6 (i k:Nat) (o:List Nat):Prop:=o.length=5∧Bd (1+(5 * i+k) * 45035996273704960) o
theorem Ba4 {x y o:List Nat} {i k:Nat} (hx:Bd 134217728 x) (hy:Bd 67108864 y) (h:Bi6 i k o):Bi6 i (k+1) (stT x y i k o):=by
 obtain⟨h1,h2⟩:=h
 have hp:=Bj6 (hx.get (by decide) i) (hy.get (by decide) k)
 have hpos:0 < 1+(5 * i+k) * 45035996273704960:=by omega
 have hmono:Bd (1+(5 * i+(k+1)) * 45035996273704960) o:=fun z hz=>Ar (h2 z hz) (by omega)
 unfold stT
 split
 ·have:=h2.get hpos (i+k)
  exact⟨by simp[h1],hmono.set (by omega)⟩
 ·have:=h2.get hpos (i+k - 5)
  exact⟨by simp[h1],hmono.set (by omega)⟩
theorem Bv3 (x y : List Nat) : vM (fun i o => vM (stT x y i) 5 0 o) 5 0 (Ab 5 0) = TIM x y := by
  have e : vM (fun i o => vM (stT x y i) 5 0 o) 5 0 (Ab 5 0) =
    [0 + x.getD 0 0 * y.getD 0 0 + 5 * (x.getD 1 0 * y.getD 4 0) + 5 * (x.getD 2 0 * y.getD 3 0) + 5 * (x.getD 3 0 * y.getD 2 0) + 5 * (x.getD 4 0 * y.getD 1 0),
     0 + x.getD 0 0 * y.getD 1 0 + x.getD 1 0 * y.getD 0 0 + 5 * (x.getD 2 0 * y.getD 4 0) + 5 * (x.getD 3 0 * y.getD 3 0) + 5 * (x.getD 4 0 * y.getD 2 0),
     0 + x.getD 0 0 * y.getD 2 0 + x.getD 1 0 * y.getD 1 0 + x.getD 2 0 * y.getD 0 0 + 5 * (x.getD 3 0 * y.getD 4 0) + 5 * (x.getD 4 0 * y.getD 3 0),
     0 + x.getD 0 0 * y.getD 3 0 + x.getD 1 0 * y.getD 2 0 + x.getD 2 0 * y.getD 1 0 + x.getD 3 0 * y.getD 0 0 + 5 * (x.getD 4 0 * y.getD 4 0),
     0 + x.getD 0 0 * y.getD 4 0 + x.getD 1 0 * y.getD 3 0 + x.getD 2 0 * y.getD 2 0 + x.getD 3 0 * y.getD 1 0 + x.getD 4 0 * y.getD 0 0] := by kernel_rfl
  rw [e]
  simp only [Bc]
  rfl
end Go.Rf.S

end
section
namespace Go.Rf.S
set_option maxRecDepth 100000
theorem A4G (x y:List Nat) (v3:List Int) (v4:List Int) (i:Nat) (hi:i < 5) (hx:Bd 134217728 x) (hy:Bd 67108864 y) (o:List Nat) (ho:Bi6 i 0 o):
  wS R L v3 v4 (cl o) (i:Int) ((x.getD i 0:Nat):Int) (cl x) (i:Int) (cl y) (0:Int)=wQ R L v3 v4 (cl (vM (stT x y i) 5 0 o)) (cl x) ((i+1:Nat):Int)∧Bi6 (i+1) 0 (vM (stT x y i) 5 0 o):=by
 have:=yX (fun (o:List Nat) k=>wS R L v3 v4 (cl o) (i:Int) ((x.getD i 0:Nat):Int) (cl x) (i:Int) (cl y) k) (stT x y i) (Bi6 i) 5
  (fun o=>wQ R L v3 v4 (cl o) (cl x) ((i+1:Nat):Int))
  (fun o hs=>by
   have hq:wS R L v3 v4 (cl o) (i:Int) ((x.getD i 0:Nat):Int) (cl x) (i:Int) (cl y) (5:Nat)=_:=round (by kernel_rfl) (AG1 R L v3 v4 (cl o) (i:Int) _ (cl x) (i:Int) (cl y) (5:Nat))
   show wS R L v3 v4 (cl o) (i:Int) ((x.getD i 0:Nat):Int) (cl x) (i:Int) (cl y) (5:Nat)=_
   rw[hq,show decide (((5:Nat):Int) < 5)=false from by decide,zB (i:=i) (by omega)]
   rfl)
  (fun o k hk hs=>by
   refine⟨?_,Ba4 hx hy hs⟩
   have hq:wS R L v3 v4 (cl o) (i:Int) ((x.getD i 0:Nat):Int) (cl x) (i:Int) (cl y) (k:Nat)=_:=round (by kernel_rfl) (AG1 R L v3 v4 (cl o) (i:Int) _ (cl x) (i:Int) (cl y) (k:Nat))
   show wS R L v3 v4 (cl o) (i:Int) ((x.getD i 0:Nat):Int) (cl x) (i:Int) (cl y) (k:Nat)=_
   have hp:=Bj6 (hx.get (by decide) i) (hy.get (by decide) k)
   have hxi:=hx.get (by decide) i
   have hpos:0 < 1+(5 * i+k) * 45035996273704960:=by omega
   have hik:Ac .i64 ((i:Int)+(k:Int))=((i+k:Nat):Int):=uP (by simp only[qH];omega)
   rw[hq,show decide ((k:Int) < 5)=true from Ad (by omega),nn,tn,zO (n:=5) hk,hik]
   simp only[Af]
   unfold stT
   by_cases h:i+k < 5
   ·have hg:=hs.2.get hpos (i+k)
    rw[A1 h,show decide (((i+k:Nat):Int) < 5)=true from Ad (by omega)]
    simp only[Af]
    rw[nn,tn,zO (n:=5) h,zB (by omega)]
    simp only[Af]
    rw[yT,yT,dB (by simp only[qH];omega),uP (by simp only[qH];omega),rE]
   ·have hg:=hs.2.get hpos (i+k - 5)
    have h5:Ac .i64 (((i+k:Nat):Int) - 5)=((i+k - 5:Nat):Int):=by
     rw[zI (by omega) (by omega)];omega
    rw[A3 h,show decide (((i+k:Nat):Int) < 5)=false from Ae (by omega)]
    simp only[Ah]
    rw[h5,nn,tn,zO (n:=5) (show i+k - 5 < 5 by omega),zB (by omega)]
    simp only[Af]
    have hm:5 * x.getD i 0 * y.getD k 0=5 * (x.getD i 0 * y.getD k 0):=Nat.mul_assoc _ _ _
    rw[yT,yT,show (5:Int)=((5:Nat):Int) from rfl,dB (by simp only[qH];omega),dB (by simp only[qH];omega),hm,uP (by simp only[qH];omega),rE])
  o ho
 refine⟨this.1,this.2.1,?_⟩
 have h2:=this.2.2
 rw[show 5 * i+5=5 * (i+1)+0 by omega] at h2
 exact h2
theorem Bh6 (x y:List Nat) (hlx:x.length=5) (hx:Bd 134217728 x) (hy:Bd 67108864 y):fG R (cl x) (cl y)=some (cl (CAR (TIM x y)),()):=by
 have hq:fG R (cl x) (cl y)=_:=call (A1R R L (cl x) (cl y))
 have:=(yX (fun (o:List Nat) i=>wQ R L (cl y) (Ab 5 0) (cl o) (cl x) i) (fun i o=>vM (stT x y i) 5 0 o) (fun i o=>Bi6 i 0 o) 5
  (fun o=>(vB R (cl o)).bind fun r0=>some (r0.1,()))
  (fun o hs=>by
   have hq:wQ R L (cl y) (Ab 5 0) (cl o) (cl x) (5:Nat)=_:=round (by kernel_rfl) (AG5 R L (cl y) (Ab 5 0) (cl o) (cl x) (5:Nat))
   show wQ R L (cl y) (Ab 5 0) (cl o) (cl x) (5:Nat)=_
   rw[hq,show decide (((5:Nat):Int) < 5)=false from by decide]
   rfl)
  (fun o i hi hs=>by
   have hq:wQ R L (cl y) (Ab 5 0) (cl o) (cl x) (i:Nat)=_:=round (by kernel_rfl) (AG5 R L (cl y) (Ab 5 0) (cl o) (cl x) (i:Nat))
   obtain⟨h1,h2⟩:=A4G x y (cl y) (Ab 5 0) i hi hx hy o hs
   refine⟨?_,h2⟩
   show wQ R L (cl y) (Ab 5 0) (cl o) (cl x) (i:Nat)=_
   rw[hq,show decide ((i:Int) < 5)=true from Ad (by omega),nn,tn,zO (n:=5) hi,yT]
   simp only[Af]
   exact h1)
  (Ab 5 0) ⟨rfl,Bd.rep (by omega)⟩).1
 rw[hq]
 refine this.trans ?_
 rw[Bv3]
 show (vB R (cl (TIM x y))).bind _=_
 rw[Af9 _ (BX3 x y) (A9K hx hy)]
 rfl
theorem A3g (x y:List Nat) (v4:List Int) (i:Nat) (hi:i < 5) (hx:Bd 134217728 x) (hy:Bd 67108864 y) (o:List Nat) (ho:Bi6 i 0 o):
  uI R L (cl x) (cl y) v4 (cl o) (i:Int) (0:Int)=uL R L (cl x) (cl y) v4 (cl (vM (stT x y i) 5 0 o)) ((i+1:Nat):Int)∧Bi6 (i+1) 0 (vM (stT x y i) 5 0 o):=by
 have:=yX (fun (o:List Nat) k=>uI R L (cl x) (cl y) v4 (cl o) (i:Int) k) (stT x y i) (Bi6 i) 5
  (fun o=>uL R L (cl x) (cl y) v4 (cl o) ((i+1:Nat):Int))
  (fun o hs=>by
   have hq:uI R L (cl x) (cl y) v4 (cl o) (i:Int) (5:Nat)=_:=round (by kernel_rfl) (Aa0 R L (cl x) (cl y) v4 (cl o) (i:Int) (5:Nat))
   show uI R L (cl x) (cl y) v4 (cl o) (i:Int) (5:Nat)=_
   rw[hq,show decide (((5:Nat):Int) < 5)=false from by decide,zB (i:=i) (by omega)]
   rfl)
  (fun o k hk hs=>by
   refine⟨?_,Ba4 hx hy hs⟩
   have hq:uI R L (cl x) (cl y) v4 (cl o) (i:Int) (k:Nat)=_:=round (by kernel_rfl) (Aa0 R L (cl x) (cl y) v4 (cl o) (i:Int) (k:Nat))
   show uI R L (cl x) (cl y) v4 (cl o) (i:Int) (k:Nat)=_
   have hp:=Bj6 (hx.get (by decide) i) (hy.get (by decide) k)
   have hpos:0 < 1+(5 * i+k) * 45035996273704960:=by omega
   have hik:Ac .i64 ((i:Int)+(k:Int))=((i+k:Nat):Int):=uP (by simp only[qH];omega)
   have hmod:A7 ((i+k:Nat):Int) 5=(((i+k) % 5:Nat):Int):=rfl
   rw[hq,show decide ((k:Int) < 5)=true from Ad (by omega),nn,tn,zO (n:=5) hi,nn,tn,zO (n:=5) hk,hik,hmod,nn,tn,zO (n:=5) (Av _ (by decide)),zB (by omega),yT,yT,yT,dB (by simp only[qH];omega)]
   simp only[Af]
   unfold stT
   by_cases h:i+k < 5
   ·have hg:=hs.2.get hpos (i+k)
    rw[A1 h,show decide ((4:Int) < ((i+k:Nat):Int))=false from Ae (by omega),At h]
    simp only[Ah]
    rw[uP (by simp only[qH];omega),rE]
   ·have hg:=hs.2.get hpos (i+k - 5)
    have e5:(i+k) % 5=i+k - 5:=by omega
    rw[A3 h,show decide ((4:Int) < ((i+k:Nat):Int))=true from Ad (by omega),e5]
    simp only[Af]
    have hm:x.getD i 0 * y.getD k 0 * 5=5 * (x.getD i 0 * y.getD k 0):=Be _ _
    rw[show (5:Int)=((5:Nat):Int) from rfl,dB (by simp only[qH];omega),hm,uP (by simp only[qH];omega),rE])
  o ho
 refine⟨this.1,this.2.1,?_⟩
 have h2:=this.2.2
 rw[show 5 * i+5=5 * (i+1)+0 by omega] at h2
 exact h2
theorem BQ5 (x y:List Nat) (hlx:x.length=5) (hx:Bd 134217728 x) (hy:Bd 67108864 y):gH R (cl x) (cl y)=some (cl (CAR (TIM x y)),()):=by
 have hq:gH R (cl x) (cl y)=_:=call (A5D R L (cl x) (cl y))
 have:=(yX (fun (o:List Nat) i=>uL R L (cl x) (cl y) (Ab 5 0) (cl o) i) (fun i o=>vM (stT x y i) 5 0 o) (fun i o=>Bi6 i 0 o) 5
  (fun o=>(kG R (cl o)).bind fun r0=>some (r0.1,()))
  (fun o hs=>by
   have hq:uL R L (cl x) (cl y) (Ab 5 0) (cl o) (5:Nat)=_:=round (by kernel_rfl) (Aa1 R L (cl x) (cl y) (Ab 5 0) (cl o) (5:Nat))
   show uL R L (cl x) (cl y) (Ab 5 0) (cl o) (5:Nat)=_
   rw[hq,show decide (((5:Nat):Int) < 5)=false from by decide]
   rfl)
  (fun o i hi hs=>by
   have hq:uL R L (cl x) (cl y) (Ab 5 0) (cl o) (i:Nat)=_:=round (by kernel_rfl) (Aa1 R L (cl x) (cl y) (Ab 5 0) (cl o) (i:Nat))
   obtain⟨h1,h2⟩:=A3g x y (Ab 5 0) i hi hx hy o hs
   refine⟨?_,h2⟩
   show uL R L (cl x) (cl y) (Ab 5 0) (cl o) (i:Nat)=_
   rw[hq,show decide ((i:Int) < 5)=true from Ad (by omega)]
   simp only[Af]
   exact h1)
  (Ab 5 0) ⟨rfl,Bd.rep (by omega)⟩).1
 rw[hq]
 refine this.trans ?_
 rw[Bv3]
 show (kG R (cl (TIM x y))).bind _=_
 rw[A55 _ (BX3 x y) (A9K hx hy)]
 rfl
end Go.Rf.S

end
section
namespace Go.Rf.S
set_option maxRecDepth 100000
def bI (t:List UInt8):List Int:=t.map fun b=>(b.toNat:Int)
theorem By5 (t:List UInt8):(bI t).length=t.length:=As _
theorem B0k (t:List UInt8) (i:Nat):(bI t).getD i (0:Int)=((bt t i:Nat):Int):=by
 unfold bI bt
 rw[Ag,Ag,AX]
 cases t[i]?<;>rfl
theorem A4p:∀ (t:List UInt8) (i:Nat),leV t / 256 ^ i % 256=bt t i
 | [],i=>by simp[leV,bt]
 | c :: cs,0=>by
  have:=c.toNat_lt
  simp only[leV,AF,AO]
  show _=c.toNat
  omega
 | c :: cs,i+1=>by
  have:=c.toNat_lt
  have ih:=A4p cs i
  have e:leV (c :: cs) / 256 ^ (i+1)=leV cs / 256 ^ i:=by
   rw[Nat.pow_succ,Be,← AA]
   congr 1
   simp only[leV]
   omega
  rw[e,ih]
  rfl
theorem Ba1 {m s:Nat} (h:m < 2 ^ s):m ||| 2 ^ s=m+2 ^ s:=by
 have:=AU h 1
 rw[Nat.mul_one] at this
 rw[Nat.or_comm,← this,Nat.add_comm]
theorem B32 {s:Nat} (h:s < 26):1≤2 ^ s∧2 ^ s≤33554432:=⟨Bu,AT (A6 (by decide) (show s≤25 by omega)) (by decide)⟩
theorem B3f {N q s:Nat} (hq:q < 5) (hs:s < 26) (hN:N < 2 ^ (26 * q+s)):(L5 N).set q ((L5 N).getD q 0 ||| 2 ^ s)=L5 (N+2 ^ (26 * q+s)):=by
 have hp:=B32 hs
 rw[AP] at hN ⊢
 have e:∀ m,m < 2 ^ s→m ||| 2 ^ s=m+2 ^ s:=fun m hm=>Ba1 hm
 generalize 2 ^ s=P at hp hN e ⊢
 match q,hq with
 | 0,_=>
  rw[show 2 ^ (26 * 0) * P=P by simp] at hN ⊢
  show [(N % 67108864 ||| P),_,_,_,_]=L5 (N+P)
  rw[e _ (by omega)]
  unfold L5
  congr 1
  ·omega
  ·congr 1
   ·omega
   ·congr 1
    ·omega
    ·congr 1
     ·omega
     ·congr 1;omega
 | 1,_=>
  rw[show 2 ^ (26 * 1) * P=67108864 * P from rfl] at hN ⊢
  show [_,(N / 67108864 % 67108864 ||| P),_,_,_]=L5 (N+67108864 * P)
  rw[e _ (by omega)]
  unfold L5
  congr 1
  ·omega
  ·congr 1
   ·omega
   ·congr 1
    ·omega
    ·congr 1
     ·omega
     ·congr 1;omega
 | 2,_=>
  rw[show 2 ^ (26 * 2) * P=4503599627370496 * P from rfl] at hN ⊢
  show [_,_,(N / 4503599627370496 % 67108864 ||| P),_,_]=L5 (N+4503599627370496 * P)
  rw[e _ (by omega)]
  unfold L5
  congr 1
  ·omega
  ·congr 1
   ·omega
   ·congr 1
    ·omega
    ·congr 1
     ·omega
     ·congr 1;omega
 | 3,_=>
  rw[show 2 ^ (26 * 3) * P=302231454903657293676544 * P from rfl] at hN ⊢
  show [_,_,_,(N / 302231454903657293676544 % 67108864 ||| P),_]=L5 (N+302231454903657293676544 * P)
  rw[e _ (by omega)]
  unfold L5
  congr 1
  ·omega
  ·congr 1
   ·omega
   ·congr 1
    ·omega
    ·congr 1
     ·omega
     ·congr 1;omega
 | 4,_=>
  rw[show 2 ^ (26 * 4) * P=20282409603651670423947251286016 * P from rfl] at hN ⊢
  show [_,_,_,_,(N / 20282409603651670423947251286016 % 67108864 ||| P)]=L5 (N+20282409603651670423947251286016 * P)
  rw[e _ (by omega)]
  unfold L5
  congr 1
  ·omega
  ·congr 1
   ·omega
   ·congr 1
    ·omega
    ·congr 1
     ·omega
     ·congr 1;omega
theorem Az9 (n:Nat):Bd 67108864 (L5 n):=bd5 (Av _ (by decide)) (Av _ (by decide)) (Av _ (by decide)) (Av _ (by decide)) (Av _ (by decide))
theorem Bt5 {t:List UInt8} {i b:Nat} (hb:b < 8):bt t i / 2 ^ b % 2=leV t / 2 ^ (8 * i+b) % 2:=by
 rw[← A4p,show (256:Nat)=2 ^ 8 from rfl,← Nat.pow_mul]
 rw[AP,← AA]
 generalize leV t / 2 ^ (8 * i)=m
 rw[show (2:Nat) ^ 8=2 ^ b * (2 * 2 ^ (7 - b)) by rw[← Nat.pow_succ',← AP];congr 1;omega,AV,Bi]
theorem A87 (n k:Nat):n % 2 ^ (k+1)=n % 2 ^ k+(n / 2 ^ k % 2) * 2 ^ k:=by
 rw[Nat.mod_pow_succ,Be (2 ^ k)]
theorem B2D {t:List UInt8} (hl:t.length≤17) (hn:leV t < 1361129467683753853853498429727072845824) (i:Nat) (hi:i < t.length) (v2:List Int) (v9:List Int) (v10:Int):
  uM R L v2 (cl (L5 (leV t % 2 ^ (8 * i)))) (i:Int) ((bt t i:Nat):Int) v9 v10 (i:Int) (0:Int)=vV R L v2 (cl (L5 (leV t % 2 ^ (8 * (i+1))))) v9 v10 ((i+1:Nat):Int):=by
 have:=(yX (fun (k:Nat) b=>uM R L v2 (cl (L5 (leV t % 2 ^ k))) (i:Int) ((bt t i:Nat):Int) v9 v10 (i:Int) b) (fun _ k=>k+1) (fun b k=>k=8 * i+b) 8
  (fun k=>vV R L v2 (cl (L5 (leV t % 2 ^ k))) v9 v10 ((i+1:Nat):Int))
  (fun k hk=>by
   have hq:uM R L v2 (cl (L5 (leV t % 2 ^ k))) (i:Int) ((bt t i:Nat):Int) v9 v10 (i:Int) (8:Nat)=_:=round (by kernel_rfl) (Ah5 R L v2 _ (i:Int) _ v9 v10 (i:Int) (8:Nat))
   show uM R L v2 (cl (L5 (leV t % 2 ^ k))) (i:Int) ((bt t i:Nat):Int) v9 v10 (i:Int) (8:Nat)=_
   rw[hq,show decide (((8:Nat):Int) < 8)=false from by decide]
   simp only[Ah]
   rw[zB (i:=i) (by omega)])
  (fun k b hb hk=>by
   subst hk
   refine⟨?_,rfl⟩
   have hq:uM R L v2 (cl (L5 (leV t % 2 ^ (8 * i+b)))) (i:Int) ((bt t i:Nat):Int) v9 v10 (i:Int) (b:Nat)=_:=round (by kernel_rfl) (Ah5 R L v2 _ (i:Int) _ v9 v10 (i:Int) (b:Nat))
   show uM R L v2 (cl (L5 (leV t % 2 ^ (8 * i+b)))) (i:Int) ((bt t i:Nat):Int) v9 v10 (i:Int) (b:Nat)=uM R L v2 (cl (L5 (leV t % 2 ^ (8 * i+b+1)))) (i:Int) ((bt t i:Nat):Int) v9 v10 (i:Int) ((b+1:Nat):Int)
   have hbt:=oF t i
   have hdiv:bt t i / 2 ^ b < 256:=Bv (AR _ _) hbt
   have hand:wB .and .u8 (((bt t i / 2 ^ b:Nat)):Int) 1=((bt t i / 2 ^ b % 2:Nat):Int):=by
    rw[show (1:Int)=((1:Nat):Int) from rfl,Ae8 (by simp only[qH];omega) (by decide),Bw]
   have hmin:Ay (Am (b:Int)) (Al .u8)=b:=by rw[tn];show Nat.min b 8=b;exact Aq (by omega)
   rw[hq,show decide ((b:Int) < 8)=true from Ad (by omega),show decide ((b:Int) < 0)=false from Ae (by omega),hmin,fI,hand,Bt5 hb,zB (i:=b) (by omega)]
   simp only[Af,Ah]
   rcases Nat.mod_two_eq_zero_or_one (leV t / 2 ^ (8 * i+b)) with h0|h1
   ·rw[h0,A87,h0,Nat.zero_mul,Nat.add_zero]
    rfl
   ·rw[h1,A87,h1,Nat.one_mul]
    have hk:8 * i+b < 130:=by
     rcases Nat.lt_or_ge (8 * i+b) 130 with h|h
     ·exact h
     ·have:leV t / 2 ^ (8 * i+b)=0:=Nat.div_eq_of_lt (Ar hn (AT (by decide) (A6 (by decide) h)))
      rw[this] at h1;simp at h1
    have e8:Ac .i64 (Ac .i64 (8 * (i:Int))+(b:Int))=((8 * i+b:Nat):Int):=by
     rw[show (8:Int)=((8:Nat):Int) from rfl,dB (by simp only[qH];omega),uP (by simp only[qH];omega)]
    have et:By ((8 * i+b:Nat):Int) 26=(((8 * i+b) / 26:Nat):Int):=rfl
    have em:A7 ((8 * i+b:Nat):Int) 26=(((8 * i+b) % 26:Nat):Int):=rfl
    rw[e8,et,em,qP (by omega),nn,tn,zO (n:=5) (by omega),show decide ((((8 * i+b) % 26:Nat):Int) < 0)=false from Ae (by omega),tn]
    rw[show eqI ((1:Nat):Int) 1=true from rfl]
    simp only[Af,Ah]
    have hs:(8 * i+b) % 26 < 26:=Av _ (by decide)
    have hp:=B32 hs
    have hm2:Ay ((8 * i+b) % 26) (Al .u64)=(8 * i+b) % 26:=Aq (by show _≤64;omega)
    have hw:Ac .u64 (1 * 2 ^ ((8 * i+b) % 26))=((2 ^ ((8 * i+b) % 26):Nat):Int):=by
     rw[Int.one_mul,show (2 ^ ((8 * i+b) % 26):Int)=((2 ^ ((8 * i+b) % 26):Nat):Int) from by simp,Ak0 (by simp only[qH];omega)]
    have hg:=(Az9 (leV t % 2 ^ (8 * i+b))).get (by decide) ((8 * i+b) / 26)
    rw[hm2,hw,yT,Au5 (by simp only[qH];omega) (by simp only[qH];omega),rE,B3f (by omega) hs (by
     rw[Bh];exact Av _ (B6 _)),Bh])
  (8 * i) (by omega)).1
 exact this
theorem A1U (t:List UInt8) (hl:t.length≤17) (hn:leV t < 1361129467683753853853498429727072845824):eU R t=some (cl (L5 (leV t)),()):=by
 have hq:eU R t=_:=call (A8C R L t)
 have:=(yX (fun (k:Nat) i=>vV R L (Ab 5 0) (cl (L5 (leV t % 2 ^ k))) (bI t) (t.length:Nat) i) (fun _ k=>k+8) (fun i k=>k=8 * i) t.length
  (fun k=>some (cl (L5 (leV t)),()))
  (fun k hk=>by
   subst hk
   have hq:vV R L (Ab 5 0) (cl (L5 (leV t % 2 ^ (8 * t.length)))) (bI t) (t.length:Nat) (t.length:Nat)=_:=round (by kernel_rfl) (Ao1 R L (Ab 5 0) _ (bI t) (t.length:Nat) (t.length:Nat))
   show vV R L (Ab 5 0) (cl (L5 (leV t % 2 ^ (8 * t.length)))) (bI t) (t.length:Nat) (t.length:Nat)=_
   rw[hq,jG (Aj _)]
   have:=A9q t
   rw[show (256:Nat)=2 ^ 8 from rfl,← Nat.pow_mul] at this
   rw[At this]
   rfl)
  (fun k i hi hk=>by
   subst hk
   refine⟨?_,by omega⟩
   have hq:vV R L (Ab 5 0) (cl (L5 (leV t % 2 ^ (8 * i)))) (bI t) (t.length:Nat) (i:Nat)=_:=round (by kernel_rfl) (Ao1 R L (Ab 5 0) _ (bI t) (t.length:Nat) (i:Nat))
   show vV R L (Ab 5 0) (cl (L5 (leV t % 2 ^ (8 * i)))) (bI t) (t.length:Nat) (i:Nat)=vV R L (Ab 5 0) (cl (L5 (leV t % 2 ^ (8 * i+8)))) (bI t) (t.length:Nat) ((i+1:Nat):Int)
   rw[hq,lZ hi,nn,tn,zO (by rw[By5];exact hi),B0k]
   simp only[Af]
   exact B2D hl hn i hi _ _ _)
  0 rfl).1
 rw[hq]
 show vV R L (Ab 5 0) (Ab 5 0) (bI t) ((bI t).length:Nat) 0=_
 rw[By5]
 refine AJ ?_ this
 rw[AF,Nat.mod_one]
 rfl
end Go.Rf.S

end
section
namespace Go.Rf.S
set_option maxRecDepth 100000
def stP (t:List UInt8) (i:Nat) (o:List Nat):List Nat:=
 let o1:=o.set (8 * i / 26) (o.getD (8 * i / 26) 0+bt t i * 2 ^ (8 * i % 26) % 67108864)
 if 18 < 8 * i % 26∧8 * i / 26 < 4 then o1.set (8 * i / 26+1) (o1.getD (8 * i / 26+1) 0+bt t i / 2 ^ (26 - 8 * i % 26)) else o1
theorem sh2 (b:Nat):b * 16777216 % 67108864+67108864 * (b / 4)=b * 16777216:=by
 rw[show (67108864:Nat)=4 * 16777216 from rfl,AK]
 omega
theorem sh4 (b:Nat):b * 4194304 % 67108864+67108864 * (b / 16)=b * 4194304:=by
 rw[show (67108864:Nat)=16 * 4194304 from rfl,AK]
 omega
theorem sh6 (b:Nat):b * 1048576 % 67108864+67108864 * (b / 64)=b * 1048576:=by
 rw[show (67108864:Nat)=64 * 1048576 from rfl,AK]
 omega
theorem BU0 (b0 b1 b2 b3 b4 b5 b6 b7 b8 b9 b10 b11 b12 b13 b14 b15 b16 x3 x6 x9 y3 y6 y9:Nat) (e3:x3+67108864 * y3=b3 * 16777216) (e6:x6+67108864 * y6=b6 * 4194304) (e9:x9+67108864 * y9=b9 * 1048576):
  val (0+b0 * 1+b1 * 256+b2 * 65536+x3) (0+y3+b4 * 64+b5 * 16384+x6) (0+y6+b7 * 16+b8 * 4096+x9) (0+y9+b10 * 4+b11 * 1024+b12 * 262144) (0+b13 * 1+b14 * 256+b15 * 65536+b16 * 16777216) =
  b0+256 * (b1+256 * (b2+256 * (b3+256 * (b4+256 * (b5+256 * (b6+256 * (b7+256 * (b8+256 * (b9+256 * (b10+256 * (b11+256 * (b12+256 * (b13+256 * (b14+256 * (b15+256 * (b16+256 * 0)))))))))))))))):=by
 unfold val
 omega
theorem Bc5 {b0 b1 b2 b3 b4 b5 b6 b7 b8 b9 b10 b11 b12 b13 b14 b15 b16 : Nat} (h0 : b0 < 256) (h1 : b1 < 256) (h2 : b2 < 256) (h3 : b3 < 256) (h4 : b4 < 256) (h5 : b5 < 256) (h6 : b6 < 256) (h7 : b7 < 256) (h8 : b8 < 256) (h9 : b9 < 256) (h10 : b10 < 256) (h11 : b11 < 256) (h12 : b12 < 256) (h13 : b13 < 256) (h14 : b14 < 256) (h15 : b15 < 256) (h16 : b16 < 4) :
    [0 + b0 * 1 % 67108864 + b1 * 256 % 67108864 + b2 * 65536 % 67108864 + b3 * 16777216 % 67108864,
     0 + b3 / 4 + b4 * 64 % 67108864 + b5 * 16384 % 67108864 + b6 * 4194304 % 67108864,
     0 + b6 / 16 + b7 * 16 % 67108864 + b8 * 4096 % 67108864 + b9 * 1048576 % 67108864,
     0 + b9 / 64 + b10 * 4 % 67108864 + b11 * 1024 % 67108864 + b12 * 262144 % 67108864,
     0 + b13 * 1 % 67108864 + b14 * 256 % 67108864 + b15 * 65536 % 67108864 + b16 * 16777216 % 67108864] =
    L5 (b0 + 256 * (b1 + 256 * (b2 + 256 * (b3 + 256 * (b4 + 256 * (b5 + 256 * (b6 + 256 * (b7 + 256 * (b8 + 256 * (b9 + 256 * (b10 + 256 * (b11 + 256 * (b12 + 256 * (b13 + 256 * (b14 + 256 * (b15 + 256 * (b16 + 256 * 0))))))))))))))))) := by
  have v : val (0 + b0 * 1 % 67108864 + b1 * 256 % 67108864 + b2 * 65536 % 67108864 + b3 * 16777216 % 67108864) (0 + b3 / 4 + b4 * 64 % 67108864 + b5 * 16384 % 67108864 + b6 * 4194304 % 67108864)
     (0 + b6 / 16 + b7 * 16 % 67108864 + b8 * 4096 % 67108864 + b9 * 1048576 % 67108864) (0 + b9 / 64 + b10 * 4 % 67108864 + b11 * 1024 % 67108864 + b12 * 262144 % 67108864)
     (0 + b13 * 1 % 67108864 + b14 * 256 % 67108864 + b15 * 65536 % 67108864 + b16 * 16777216 % 67108864) =
    b0 + 256 * (b1 + 256 * (b2 + 256 * (b3 + 256 * (b4 + 256 * (b5 + 256 * (b6 + 256 * (b7 + 256 * (b8 + 256 * (b9 + 256 * (b10 + 256 * (b11 + 256 * (b12 + 256 * (b13 + 256 * (b14 + 256 * (b15 + 256 * (b16 + 256 * 0)))))))))))))))) := by
    rw [At (a := b0 * 1) (by omega), At (a := b1 * 256) (by omega), At (a := b2 * 65536) (by omega), At (a := b4 * 64) (by omega), At (a := b5 * 16384) (by omega), At (a := b7 * 16) (by omega), At (a := b8 * 4096) (by omega), At (a := b10 * 4) (by omega), At (a := b11 * 1024) (by omega), At (a := b12 * 262144) (by omega), At (a := b13 * 1) (by omega), At (a := b14 * 256) (by omega), At (a := b15 * 65536) (by omega), At (a := b16 * 16777216) (by omega)]
    exact BU0 _ _ _ _ _ _ _ _ _ _ _ _ _ _ _ _ _ _ _ _ _ _ _ (sh2 b3) (sh4 b6) (sh6 b9)
  rw [← v]
  refine (Bp1 ?_ ?_ ?_ ?_ ?_).symm <;> omega
theorem B3s {t:List UInt8} (h:t.length=17):leV t=bt t 0+256 * (bt t 1+256 * (bt t 2+256 * (bt t 3+256 * (bt t 4+256 * (bt t 5+256 * (bt t 6+256 * (bt t 7+256 * (bt t 8+256 * (bt t 9+256 * (bt t 10+256 * (bt t 11+256 * (bt t 12+256 * (bt t 13+256 * (bt t 14+256 * (bt t 15+256 * (bt t 16+256 * 0)))))))))))))))):=by
 match t,h with
 | [a,b,c,d,e,f,g,h,i,j,k,l,m,n,o,p,q],_=>rfl
theorem A5c (t:List UInt8) (hl:t.length=17) (h16:bt t 16 < 4):gO R t=some (cl (L5 (leV t)),()):=by
 have hq:gO R t=_:=call (A6R R L t)
 have:=(yX (fun (o:List Nat) i=>uK R L t (Ab 5 0) (cl o) i) (stP t) (fun i o=>o.length=5∧Bd (1+i * 134217728) o) 17
  (fun o=>some (cl o,()))
  (fun o hs=>by
   have hq:uK R L t (Ab 5 0) (cl o) (17:Nat)=_:=round (by kernel_rfl) (Ab8 R L t (Ab 5 0) (cl o) (17:Nat))
   show uK R L t (Ab 5 0) (cl o) (17:Nat)=_
   rw[hq,show decide (((17:Nat):Int) < 17)=false from by decide]
   rfl)
  (fun o i hi hs=>by
   have hq:uK R L t (Ab 5 0) (cl o) (i:Nat)=_:=round (by kernel_rfl) (Ab8 R L t (Ab 5 0) (cl o) (i:Nat))
   have hb:=oF t i
   have hpos:0 < 1+i * 134217728:=by omega
   have hg:=hs.2.get hpos (8 * i / 26)
   have hg1:=hs.2.get hpos (8 * i / 26+1)
   have hm:=Av (bt t i * 2 ^ (8 * i % 26)) (show 0 < 67108864 by decide)
   have hd:bt t i / 2 ^ (26 - 8 * i % 26)≤bt t i:=AR _ _
   have hmono:Bd (1+(i+1) * 134217728) o:=fun z hz=>Ar (hs.2 z hz) (by omega)
   refine⟨?_,?_⟩
   ·show uK R L t (Ab 5 0) (cl o) (i:Nat)=_
    have e8:Ac .i64 (8 * (i:Int))=((8 * i:Nat):Int):=by rw[show (8:Int)=((8:Nat):Int) from rfl,dB (by simp only[qH];omega)]
    have et:By ((8 * i:Nat):Int) 26=((8 * i / 26:Nat):Int):=rfl
    have em:A7 ((8 * i:Nat):Int) 26=((8 * i % 26:Nat):Int):=rfl
    have hs26:8 * i % 26 < 26:=Av _ (by decide)
    have hp:=B32 hs26
    have hmul:bt t i * 2 ^ (8 * i % 26)≤255 * 33554432:=Bk (by omega) hp.2
    have hmn:Ay (8 * i % 26) (Al .i64)=8 * i % 26:=Aq (by show _≤64;omega)
    have hw0:Ac .i64 ((Bj (t.getD i 0):Nat):Int)=((bt t i:Nat):Int):=qP (by show bt t i < _;omega)
    have hsh:Ac .i64 (((bt t i:Nat):Int) * 2 ^ (8 * i % 26))=((bt t i * 2 ^ (8 * i % 26):Nat):Int):=by rw[BH7,qP (by omega)]
    rw[hq,show decide ((i:Int) < 17)=true from Ad (by omega),e8,et,em,qP (n:=8 * i / 26) (by omega)]
    simp only[nn,tn]
    rw[zO (n:=t.length) (by omega),zO (n:=5) (show 8 * i / 26 < 5 by omega),show decide (((8 * i % 26:Nat):Int) < 0)=false from Ae (by omega),hmn,hw0,hsh,m26 (by simp only[qH];omega) (by decide),yT,uP (by simp only[qH];omega),rE,zB (i:=i) (by omega)]
    simp only[Af,Ah]
    unfold stP
    by_cases h18:18 < 8 * i % 26
    ·rw[show decide ((18:Int) < ((8 * i % 26:Nat):Int))=true from Ad (by omega)]
     simp only[Af]
     by_cases h4:8 * i / 26 < 4
     ·rw[show decide (((8 * i / 26:Nat):Int) < 4)=true from Ad (by omega),zB (i:=8 * i / 26) (by omega)]
      simp only[Af,nn,tn]
      have e26:Ac .i64 (26 - ((8 * i % 26:Nat):Int))=((26 - 8 * i % 26:Nat):Int):=by rw[zI (by omega) (by omega)];omega
      have hmn2:Ay (26 - 8 * i % 26) (Al .i64)=26 - 8 * i % 26:=Aq (by show _≤64;omega)
      rw[zO (n:=5) (show 8 * i / 26+1 < 5 by omega),e26,show decide (((26 - 8 * i % 26:Nat):Int) < 0)=false from Ae (by omega),tn,hmn2,fI,yT,kW (by omega),uP (by simp only[qH];omega),rE,A1 ⟨h18,h4⟩]
      simp only[Af,Ah]
      first|done|rw[kW (by omega)]
     ·rw[show decide (((8 * i / 26:Nat):Int) < 4)=false from Ae (by omega),A3 (fun h=>h4 h.2)]
      rfl
    ·rw[show decide ((18:Int) < ((8 * i % 26:Nat):Int))=false from Ae (by omega),A3 (fun h=>h18 h.1)]
     rfl
   ·unfold stP
    simp only
    split
    ·exact⟨by simp[hs.1],(hmono.set (by omega)).set (by rw[kW (by omega)];omega)⟩
    ·exact⟨by simp[hs.1],hmono.set (by omega)⟩)
  (Ab 5 0) ⟨rfl,Bd.rep (by omega)⟩).1
 rw[hq]
 refine this.trans ?_
 rw[B3s hl,← Bc5 (oF _ _) (oF _ _) (oF _ _) (oF _ _) (oF _ _) (oF _ _) (oF _ _) (oF _ _) (oF _ _) (oF _ _) (oF _ _) (oF _ _) (oF _ _) (oF _ _) (oF _ _) (oF _ _) h16]
 kernel_rfl
end Go.Rf.S

end
section
namespace Go.Rf.S
set_option maxRecDepth 100000
def ADD (x y:List Nat):List Nat:=[x.getD 0 0+y.getD 0 0,x.getD 1 0+y.getD 1 0,x.getD 2 0+y.getD 2 0,x.getD 3 0+y.getD 3 0,x.getD 4 0+y.getD 4 0]
def B1q (y:List Nat) (i:Nat) (x:List Nat):List Nat:=x.set i (x.getD i 0+y.getD i 0)
theorem Bv2 (x y:List Nat) (h:x.length=5):vM (B1q y) 5 0 x=ADD x y:=by
 match x,h with
 | [a,b,c,d,e],_=>rfl
theorem Bt8 (x y:List Nat):vl (ADD x y)=vl x+vl y:=by
 show val _ _ _ _ _=val _ _ _ _ _+val _ _ _ _ _
 unfold val
 simp only[ADD,Bn,Bo]
 omega
theorem BZ9 {x y:List Nat} (hx:Bd 67108864 x) (hy:Bd 67108864 y):Bd 134217728 (ADD x y):=by
 have g:=fun i=>hx.get (by decide) i
 have k:=fun i=>hy.get (by decide) i
 have g0:=g 0;have g1:=g 1;have g2:=g 2;have g3:=g 3;have g4:=g 4
 have k0:=k 0;have k1:=k 1;have k2:=k 2;have k3:=k 3;have k4:=k 4
 exact bd5 (by omega) (by omega) (by omega) (by omega) (by omega)
def B2y (x0:List Nat) (i:Nat) (x:List Nat):Prop:=x.length=5∧∀ j,i≤j→x.getD j 0=x0.getD j 0
theorem B2y.step {x0 y x:List Nat} {i:Nat} (h:B2y x0 i x):B2y x0 (i+1) (B1q y i x):=⟨by simp[B1q,h.1],fun j hj=>by
 unfold B1q
 rw[kW (by omega)];exact h.2 j (by omega)⟩
theorem Bm7 (x y:List Nat) (hl:x.length=5) (hx:Bd 67108864 x) (hy:Bd 67108864 y):dC R (cl x) (cl y)=some (cl (CAR (ADD x y)),()):=by
 have hq:dC R (cl x) (cl y)=_:=call (A2J R L (cl x) (cl y))
 have:=(yX (fun (z:List Nat) i=>tA R L (cl z) (cl y) (Ab 5 0) i) (B1q y) (B2y x) 5
  (fun z=>(vB R (cl z)).bind fun r0=>some (r0.1,()))
  (fun z hs=>by
   have hq:tA R L (cl z) (cl y) (Ab 5 0) (5:Nat)=_:=round (by kernel_rfl) (AO2 R L (cl z) (cl y) (Ab 5 0) (5:Nat))
   show tA R L (cl z) (cl y) (Ab 5 0) (5:Nat)=_
   rw[hq,show decide (((5:Nat):Int) < 5)=false from by decide]
   rfl)
  (fun z i hi hs=>by
   have hq:tA R L (cl z) (cl y) (Ab 5 0) (i:Nat)=_:=round (by kernel_rfl) (AO2 R L (cl z) (cl y) (Ab 5 0) (i:Nat))
   refine⟨?_,hs.step⟩
   show tA R L (cl z) (cl y) (Ab 5 0) (i:Nat)=_
   have hg:=hx.get (by decide) i
   have hk:=hy.get (by decide) i
   have he:=hs.2 i (Aj _)
   rw[hq,show decide ((i:Int) < 5)=true from Ad (by omega)]
   simp only[nn,tn]
   rw[zO (n:=5) hi,yT,yT,uP (by simp only[qH];omega),rE,zB (i:=i) (by omega)]
   rfl)
  x ⟨hl,fun _ _=>rfl⟩).1
 rw[hq]
 refine this.trans ?_
 rw[Bv2 _ _ hl]
 show (vB R (cl (ADD x y))).bind _=_
 rw[Af9 _ rfl (fun z hz=>Ar (BZ9 hx hy z hz) (by decide))]
 rfl
theorem Bo7 (x y:List Nat) (hl:x.length=5) (hx:Bd 67108864 x) (hy:Bd 67108864 y) (v0 v1:List UInt8) (v5:List Int) (v7:Int):
  rS R L v0 v1 v5 (cl x) v7 (cl y) (0:Int)=(gH R (cl (ADD x y)) v5).bind fun r0=>qQ R L v0 v1 v5 r0.1 (Ac .i64 (v7+16)):=by
 have:=(yX (fun (z:List Nat) i=>rS R L v0 v1 v5 (cl z) v7 (cl y) i) (B1q y) (B2y x) 5
  (fun z=>(gH R (cl z) v5).bind fun r0=>qQ R L v0 v1 v5 r0.1 (Ac .i64 (v7+16)))
  (fun z hs=>by
   have hq:rS R L v0 v1 v5 (cl z) v7 (cl y) (5:Nat)=_:=round (by kernel_rfl) (Av5 R L v0 v1 v5 (cl z) v7 (cl y) (5:Nat))
   show rS R L v0 v1 v5 (cl z) v7 (cl y) (5:Nat)=_
   rw[hq,show decide (((5:Nat):Int) < 5)=false from by decide]
   rfl)
  (fun z i hi hs=>by
   have hq:rS R L v0 v1 v5 (cl z) v7 (cl y) (i:Nat)=_:=round (by kernel_rfl) (Av5 R L v0 v1 v5 (cl z) v7 (cl y) (i:Nat))
   refine⟨?_,hs.step⟩
   show rS R L v0 v1 v5 (cl z) v7 (cl y) (i:Nat)=_
   have hg:=hx.get (by decide) i
   have hk:=hy.get (by decide) i
   have he:=hs.2 i (Aj _)
   rw[hq,show decide ((i:Int) < 5)=true from Ad (by omega)]
   simp only[nn,tn]
   rw[zO (n:=5) hi,yT,yT,uP (by simp only[qH];omega),rE,zB (i:=i) (by omega)]
   rfl)
  x ⟨hl,fun _ _=>rfl⟩).1
 refine this.trans ?_
 rw[Bv2 _ _ hl]
def RED (x:List Nat):List Nat:=if PP≤vl x then L5 (vl x - PP) else x
theorem Bu3 {x:List Nat} (h:Can x):RED x=L5 (if PP≤vl x then vl x - PP else vl x):=by
 unfold RED
 split
 ·rfl
 ·have g:=fun i=>h.b.get (by decide) i
  exact (BI4 h.l).trans (Bp1 (g 0) (g 1) (g 2) (g 3) (g 4)).symm
theorem B15 {x:List Nat} (h:Can x):vl x < 1361129467683753853853498429727072845824:=by
 have g:=fun i=>h.b.get (by decide) i
 exact B2A (g 0) (g 1) (g 2) (g 3) (g 4)
def lst:List Nat:=[67108859,67108863,67108863,67108863,67108863]
theorem Bs9 (x:List Nat) (hx:Can x) (v2:List Int) (i:Nat) (hi:i < 5):wH R L (cl x) v2 (cl lst) (i:Int) =
  if x.getD i 0=lst.getD i 0 then wH R L (cl x) v2 (cl lst) ((i:Int) - 1) else if x.getD i 0 < lst.getD i 0 then some (cl x,()) else yF R L (cl x) v2 (cl lst) 0:=by
 have hq:wH R L (cl x) v2 (cl lst) (i:Int)=_:=round (by kernel_rfl) (AA8 R L (cl x) v2 (cl lst) (i:Int))
 rw[hq,show decide ((0:Int)≤(i:Int))=true from Ad (by omega),zI (n:=(i:Int) - 1) (by omega) (by omega)]
 simp only[nn,tn]
 rw[zO (n:=5) hi,yT,yT,yU]
 simp only[Af]
 by_cases h:x.getD i 0=lst.getD i 0
 ·rw[A1 h,h];simp
 ·rw[A3 h,show decide (((x.getD i 0:Nat):Int)=((lst.getD i 0:Nat):Int))=false from Ae (by omega)]
  simp only[A8,Af]
  by_cases h2:x.getD i 0 < lst.getD i 0
  ·rw[A1 h2,show decide (((x.getD i 0:Nat):Int) < ((lst.getD i 0:Nat):Int))=true from Ad (by omega)];rfl
  ·rw[A3 h2,show decide (((x.getD i 0:Nat):Int) < ((lst.getD i 0:Nat):Int))=false from Ae (by omega)];rfl
theorem B25 (l:List Nat) (a b c d e:Nat):vM (fun i (z:List Nat)=>z.set i (z.getD i 0 - l.getD i 0)) 5 0 [a,b,c,d,e]=[a - l.getD 0 0,b - l.getD 1 0,c - l.getD 2 0,d - l.getD 3 0,e - l.getD 4 0]:=rfl
theorem B0E (a:Nat) (ha:a < 67108864) (h:67108859≤a) (v2:List Int):yF R L (cl [a,67108863,67108863,67108863,67108863]) v2 (cl lst) (0:Int)=some (cl [a - 67108859,0,0,0,0],()):=by
 have:=(yX (fun (z:List Nat) i=>yF R L (cl z) v2 (cl lst) i) (fun i z=>z.set i (z.getD i 0 - lst.getD i 0)) (fun i z=>z.length=5∧∀ j,i≤j→z.getD j 0=[a,67108863,67108863,67108863,67108863].getD j 0) 5
  (fun z=>some (cl z,()))
  (fun z hs=>by
   have hq:yF R L (cl z) v2 (cl lst) (5:Nat)=_:=round (by kernel_rfl) (aX R L (cl z) v2 (cl lst) (5:Nat))
   show yF R L (cl z) v2 (cl lst) (5:Nat)=_
   rw[hq,show decide (((5:Nat):Int) < 5)=false from by decide]
   rfl)
  (fun z i hi hs=>by
   have hq:yF R L (cl z) v2 (cl lst) (i:Nat)=_:=round (by kernel_rfl) (aX R L (cl z) v2 (cl lst) (i:Nat))
   refine⟨?_,by simp[hs.1],fun j hj=>by rw[kW (by omega)];exact hs.2 j (by omega)⟩
   show yF R L (cl z) v2 (cl lst) (i:Nat)=_
   have he:=hs.2 i (Aj _)
   have hge:lst.getD i 0≤z.getD i 0∧z.getD i 0 < 67108864:=by
    rw[he]
    match i,hi with
    | 0,_=>exact⟨h,ha⟩
    | 1,_=>exact⟨Aj 67108863,(by decide:(67108863:Nat) < 67108864)⟩
    | 2,_=>exact⟨Aj 67108863,(by decide:(67108863:Nat) < 67108864)⟩
    | 3,_=>exact⟨Aj 67108863,(by decide:(67108863:Nat) < 67108864)⟩
    | 4,_=>exact⟨Aj 67108863,(by decide:(67108863:Nat) < 67108864)⟩
   rw[hq,show decide ((i:Int) < 5)=true from Ad (by omega)]
   simp only[nn,tn]
   rw[zO (n:=5) hi,yT,yT,show ((z.getD i 0:Nat):Int) - ((lst.getD i 0:Nat):Int)=((z.getD i 0 - lst.getD i 0:Nat):Int) from by omega,Ak0 (by simp only[qH];omega),rE,zB (i:=i) (by omega)]
   simp only[Af])
  [a,67108863,67108863,67108863,67108863] ⟨rfl,fun _ _=>rfl⟩).1
 refine this.trans ?_
 have:=B25 lst a 67108863 67108863 67108863 67108863
 rw[this,show lst.getD 0 0=67108859 from rfl,show lst.getD 1 0=67108863 from rfl,show lst.getD 2 0=67108863 from rfl,show lst.getD 3 0=67108863 from rfl,show lst.getD 4 0=67108863 from rfl,Bf]
theorem A8P (x:List Nat) (hx:Can x):jQ R (cl x)=some (cl (RED x),()):=by
 have hq:jQ R (cl x)=_:=call (Ap8 R L (cl x))
 rw[hq,Af9 x hx.l (fun z hz=>Ar (hx.b z hz) (by decide)),Bv0 hx]
 simp only[Aa]
 have g:=fun i=>hx.b.get (by decide) i
 have hl:=BI4 hx.l
 have r:=fun i hi=>Bs9 x hx (Ab 5 0) i hi
 show wH R L (cl x) (Ab 5 0) (cl lst) ((4:Nat):Int)=_
 generalize ha:x.getD 0 0=a at *
 generalize hb:x.getD 1 0=b at *
 generalize hc:x.getD 2 0=c at *
 generalize hd:x.getD 3 0=d at *
 generalize he:x.getD 4 0=e at *
 have ga:a < 67108864:=ha▸g 0
 have gb:b < 67108864:=hb▸g 1
 have gc:c < 67108864:=hc▸g 2
 have gd:d < 67108864:=hd▸g 3
 have ge:e < 67108864:=he▸g 4
 have hv:vl x=val a b c d e:=by rw[hl];rfl
 have small:val a b c d e < PP→some (cl x,())=some (cl (RED x),()):=fun h=>by
  unfold RED
  rw[A3 (by rw[hv];omega)]
 have end_:∀ z v2 v3,wH R L z v2 v3 (-1)=yF R L z v2 v3 0:=fun z v2 v3=>by
  have hq:wH R L z v2 v3 (-1)=_:=round (by kernel_rfl) (AA8 R L z v2 v3 (-1))
  rw[hq];rfl
 rw[r 4 (by decide),he]
 show (if e=67108863 then _ else if e < 67108863 then _ else _)=_
 by_cases h4:e=67108863
 ·rw[A1 h4,show ((4:Nat):Int) - 1=((3:Nat):Int) from rfl,r 3 (by decide),hd]
  show (if d=67108863 then _ else if d < 67108863 then _ else _)=_
  by_cases h3:d=67108863
  ·rw[A1 h3,show ((3:Nat):Int) - 1=((2:Nat):Int) from rfl,r 2 (by decide),hc]
   show (if c=67108863 then _ else if c < 67108863 then _ else _)=_
   by_cases h2:c=67108863
   ·rw[A1 h2,show ((2:Nat):Int) - 1=((1:Nat):Int) from rfl,r 1 (by decide),hb]
    show (if b=67108863 then _ else if b < 67108863 then _ else _)=_
    by_cases h1:b=67108863
    ·rw[A1 h1,show ((1:Nat):Int) - 1=((0:Nat):Int) from rfl,r 0 (by decide),ha,show ((0:Nat):Int) - 1=-1 from rfl,end_]
     show (if a=67108859 then _ else if a < 67108859 then _ else _)=_
     have big:67108859≤a→yF R L (cl x) (Ab 5 0) (cl lst) 0=some (cl (RED x),()):=fun h=>by
      have hx':x=[a,67108863,67108863,67108863,67108863]:=by rw[hl,h1,h2,h3,h4]
      have hv2:vl x=PP+(a - 67108859):=by rw[hv,h1,h2,h3,h4];unfold val PP;omega
      have hr:RED x=[a - 67108859,0,0,0,0]:=by
       unfold RED
       rw[A1 (by omega),hv2,Nat.add_sub_cancel_left]
       have:=Bp1 (a:=a - 67108859) (b:=0) (c:=0) (d:=0) (e:=0) (by omega) (by decide) (by decide) (by decide) (by decide)
       rw[← this,show val (a - 67108859) 0 0 0 0=a - 67108859 from by unfold val;omega]
      rw[hr,hx']
      exact B0E a ga h _
     by_cases h0:a=67108859
     ·rw[A1 h0];exact big (by omega)
     ·rw[A3 h0]
      by_cases h0':a < 67108859
      ·rw[A1 h0'];exact small (by unfold val PP;omega)
      ·rw[A3 h0'];exact big (by omega)
    ·rw[A3 h1,A1 (by omega)];exact small (by unfold val PP;omega)
   ·rw[A3 h2,A1 (by omega)];exact small (by unfold val PP;omega)
  ·rw[A3 h3,A1 (by omega)];exact small (by unfold val PP;omega)
 ·rw[A3 h4,A1 (by omega)];exact small (by unfold val PP;omega)
end Go.Rf.S

end
section
namespace Go.Rf.S
set_option maxRecDepth 100000
theorem B0P (a b c d e:Nat):vM B2k 4 0 [a,b,c,d,e]=[a % 67108864,(b+a / 67108864) % 67108864,(c+(b+a / 67108864) / 67108864) % 67108864,(d+(c+(b+a / 67108864) / 67108864) / 67108864) % 67108864,e+(d+(c+(b+a / 67108864) / 67108864) / 67108864) / 67108864]:=rfl
theorem Bj3 (x:List Nat) (hx:Can x):AL6 R (cl x)=some (cl (RED x),()):=by
 have hq:AL6 R (cl x)=_:=call (A7g R L (cl x))
 have g:=fun i=>hx.b.get (by decide) i
 have g0:=g 0;have g1:=g 1;have g2:=g 2;have g3:=g 3;have g4:=g 4
 have hl:=BI4 hx.l
 have e0:(cl x).set (Am 0) (Ac .i64 ((cl x).getD (Am 0) 0+5))=cl (x.set 0 (x.getD 0 0+5)):=by
  rw[show Am 0=0 from rfl,yT,show (5:Int)=((5:Nat):Int) from rfl,uP (by simp only[qH];omega),rE]
 have:=(yX (fun (z:List Nat) i=>pF R L (cl x) (Ab 5 0) (cl z) i) B2k
  (fun i z=>z.length=5∧Bd (134217728+i * 1099511627776) z) 4
  (fun z=>cond (eqI ((z.getD 4 0 / 67108864:Nat):Int) 0) (some (cl x,())) (some (cl (z.set 4 (z.getD 4 0 % 67108864)),())))
  (fun z hs=>by
   obtain⟨h1,h2⟩:=hs
   have hq:pF R L (cl x) (Ab 5 0) (cl z) (4:Nat)=_:=round (by kernel_rfl) (Ah1 R L (cl x) (Ab 5 0) (cl z) (4:Nat))
   have hg4:=h2.get (by decide) 4
   show pF R L (cl x) (Ab 5 0) (cl z) (4:Nat)=_
   rw[hq,show decide (((4:Nat):Int) < 4)=false from by decide]
   simp only[Ah]
   have ed:AZ ((cl z).getD 4 0) (2 ^ Ay (Am 26) (Al .i64))=((z.getD 4 0 / 67108864:Nat):Int):=by rw[yT];exact fI _ 26
   rw[show Am 4=4 from rfl,ed,yT,m26 (by simp only[qH];omega) (by decide),rE])
  (fun x' i hi hs=>by
   obtain⟨h1,h2⟩:=hs
   have hq:pF R L (cl x) (Ab 5 0) (cl x') (i:Nat)=_:=round (by kernel_rfl) (Ah1 R L (cl x) (Ab 5 0) (cl x') (i:Nat))
   have hpos:0 < 134217728+i * 1099511627776:=by omega
   have hg:=h2.get hpos i
   have hg1:=h2.get hpos (i+1)
   have hmono:Bd (134217728+(i+1) * 1099511627776) x':=fun y hy=>Ar (h2 y hy) (by omega)
   refine⟨?_,by simp[B2k,h1],(hmono.set (by omega)).set (Ar (Av _ (by decide)) (by omega))⟩
   show pF R L (cl x) (Ab 5 0) (cl x') (i:Nat)=_
   have ed:AZ ((cl x').getD i 0) (2 ^ Ay (Am 26) (Al .i64))=((x'.getD i 0 / 67108864:Nat):Int):=by rw[yT];exact fI _ 26
   rw[hq,show decide ((i:Int) < 4)=true from Ad (by omega),zB (by omega)]
   simp only[nn,tn]
   rw[zO (n:=5) (show i+1 < 5 by omega),zO (n:=5) (show i < 5 by omega),ed,yT,uP (by simp only[qH];omega),rE,yT,kW (by omega),m26 (by simp only[qH];omega) (by decide),rE]
   simp only[Af]
   rfl)
  (x.set 0 (x.getD 0 0+5)) ⟨by simp[hx.l],Bd.set (fun y hy=>Ar (hx.b y hy) (by decide)) (by omega)⟩).1
 rw[hq,e0]
 refine this.trans ?_
 generalize ha:x.getD 0 0=a at *
 generalize hb:x.getD 1 0=b at *
 generalize hc:x.getD 2 0=c at *
 generalize hd:x.getD 3 0=d at *
 generalize he:x.getD 4 0=e at *
 have hset:x.set 0 (a+5)=[a+5,b,c,d,e]:=by rw[hl];rfl
 have hv:vl x=val a b c d e:=by rw[hl];rfl
 rw[hset,B0P]
 generalize h1:b+(a+5) / 67108864=b1
 generalize h2:c+b1 / 67108864=c1
 generalize h3:d+c1 / 67108864=d1
 generalize h4:e+d1 / 67108864=e1
 show cond (eqI ((e1 / 67108864:Nat):Int) 0) _ (some (cl [(a+5) % 67108864,b1 % 67108864,c1 % 67108864,d1 % 67108864,e1 % 67108864],()))=_
 unfold RED
 by_cases hz:e1 / 67108864=0
 ·rw[hz,A3 (by rw[hv];unfold val PP;omega)];rfl
 ·have h1':e1 / 67108864=1:=by omega
  rw[h1',A1 (by rw[hv];unfold val PP;omega)]
  have hm:val ((a+5) % 67108864) (b1 % 67108864) (c1 % 67108864) (d1 % 67108864) (e1 % 67108864)=vl x - PP:=by
   rw[hv];unfold val PP;omega
  rw[← hm,Bp1 (Av _ (by decide)) (Av _ (by decide)) (Av _ (by decide)) (Av _ (by decide)) (Av _ (by decide))]
  rfl
theorem B10 (v q s:Nat) (hq:q < 5) (hs:s < 26):(L5 v).getD q 0 / 2 ^ s % 2=v / 2 ^ (26 * q+s) % 2:=by
 have e:(L5 v).getD q 0=v / 2 ^ (26 * q) % 67108864:=by
  match q,hq with
  | 0,_=>show v % 67108864=v / 2 ^ 0 % 67108864;rw[AF,AO]
  | 1,_=>rfl
  | 2,_=>rfl
  | 3,_=>rfl
  | 4,_=>rfl
 rw[e,AP,← AA]
 generalize v / 2 ^ (26 * q)=m
 rw[show (67108864:Nat)=2 ^ s * (2 * 2 ^ (25 - s)) by rw[← Nat.pow_succ',← AP,show s+(25 - s).succ=26 by omega],AV,Bi]
theorem B3F {m b x:Nat} (h:m < 2 ^ b) (hx:x < 2):m ||| x * 2 ^ b=m+x * 2 ^ b:=by
 rcases (show x=0∨x=1 by omega) with rfl|rfl
 ·simp
 ·rw[Nat.one_mul];exact Ba1 h
def stG (v:Nat) (k:List UInt8) (i:Nat) (s:List Nat × Nat):List Nat × Nat:=
 (s.1++[(s.2+(v / 2 ^ (8 * i) % 256+bt k i)) % 256],(s.2+(v / 2 ^ (8 * i) % 256+bt k i)) / 256)
def B2V (i:Nat) (s:List Nat × Nat):Prop:=s.1.length=i∧s.2≤2
theorem B2V.step {v i:Nat} {k:List UInt8} {s:List Nat × Nat} (h:B2V i s):B2V (i+1) (stG v k i s):=by
 have hb:=oF k i
 have hm:=Av (v / 2 ^ (8 * i)) (show 0 < 256 by decide)
 have h2:=h.2
 refine⟨by simp[stG,h.1],?_⟩
 show (s.2+(v / 2 ^ (8 * i) % 256+bt k i)) / 256≤2
 omega
def B3P (v:Nat) (k:List UInt8):List UInt8:=(vM (stG v k) 16 0 ([],0)).1.map fun n=>Ax n
theorem B0N (v:Nat) (k:List UInt8) (hk:k.length=16) (i:Nat) (hi:i < 16) (o:List Int) (ho:o.length=16) (c:Nat) (hc:c≤2):
  wO R L k (cl (L5 v)) o (c:Int) (i:Int) (0:Int) (16:Nat) (i:Int) (0:Int) =
   xX R L k (cl (L5 v)) (o.set i (((c+(v / 2 ^ (8 * i) % 256+bt k i)) % 256:Nat):Int)) (((c+(v / 2 ^ (8 * i) % 256+bt k i)) / 256:Nat):Int) (16:Nat) ((i+1:Nat):Int):=by
 have:=(yX (fun (w:Nat) b=>wO R L k (cl (L5 v)) o (c:Int) (i:Int) (w:Int) (16:Nat) (i:Int) b) (fun b _=>v / 2 ^ (8 * i) % 2 ^ (b+1)) (fun b w=>w=v / 2 ^ (8 * i) % 2 ^ b) 8
  (fun w=>xX R L k (cl (L5 v)) (o.set i (((c+(w+bt k i)) % 256:Nat):Int)) (((c+(w+bt k i)) / 256:Nat):Int) (16:Nat) ((i+1:Nat):Int))
  (fun w hw=>by
   have hq:wO R L k (cl (L5 v)) o (c:Int) (i:Int) (w:Int) (16:Nat) (i:Int) (8:Nat)=_:=round (by kernel_rfl) (AG0 R L k _ o (c:Int) (i:Int) (w:Int) (16:Nat) (i:Int) (8:Nat))
   show wO R L k (cl (L5 v)) o (c:Int) (i:Int) (w:Int) (16:Nat) (i:Int) (8:Nat)=_
   have hb:=oF k i
   have hw8:w < 256:=by rw[hw];exact Av _ (by decide)
   have hw0:Ac .i64 ((Bj (k.getD i 0):Nat):Int)=((bt k i:Nat):Int):=qP (by show bt k i < _;omega)
   rw[hq,show decide (((8:Nat):Int) < 8)=false from by decide]
   simp only[Ah,nn,tn]
   rw[zO (by omega),zO (by omega),hw0,uP (by simp only[qH];omega),uP (by simp only[qH];omega),qK,zB (i:=i) (by omega)]
   simp only[Af]
   rw[show AZ ((c+(w+bt k i):Nat):Int) (2 ^ Ay (Am 8) (Al .i64))=(((c+(w+bt k i)) / 256:Nat):Int) from fI _ 8])
  (fun w b hb hw=>by
   refine⟨?_,rfl⟩
   have hq:wO R L k (cl (L5 v)) o (c:Int) (i:Int) (w:Int) (16:Nat) (i:Int) (b:Nat)=_:=round (by kernel_rfl) (AG0 R L k _ o (c:Int) (i:Int) (w:Int) (16:Nat) (i:Int) (b:Nat))
   show wO R L k (cl (L5 v)) o (c:Int) (i:Int) (w:Int) (16:Nat) (i:Int) (b:Nat)=wO R L k (cl (L5 v)) o (c:Int) (i:Int) ((v / 2 ^ (8 * i) % 2 ^ (b+1):Nat):Int) (16:Nat) (i:Int) ((b+1:Nat):Int)
   have e8:Ac .i64 (Ac .i64 (8 * (i:Int))+(b:Int))=((8 * i+b:Nat):Int):=by
    rw[show (8:Int)=((8:Nat):Int) from rfl,dB (by simp only[qH];omega),uP (by simp only[qH];omega)]
   have et:By ((8 * i+b:Nat):Int) 26=(((8 * i+b) / 26:Nat):Int):=rfl
   have em:A7 ((8 * i+b:Nat):Int) 26=(((8 * i+b) % 26:Nat):Int):=rfl
   have hs:(8 * i+b) % 26 < 26:=Av _ (by decide)
   have hm2:Ay ((8 * i+b) % 26) (Al .u64)=(8 * i+b) % 26:=Aq (by show _≤64;omega)
   have hm3:Ay b (Al .i64)=b:=Aq (by show _≤64;omega)
   have hg:=(Az9 v).get (by decide) ((8 * i+b) / 26)
   have hdl:(L5 v).getD ((8 * i+b) / 26) 0 / 2 ^ ((8 * i+b) % 26) < 67108864:=Bv (AR _ _) hg
   have hand:wB .and .u64 (((L5 v).getD ((8 * i+b) / 26) 0 / 2 ^ ((8 * i+b) % 26):Nat):Int) 1=((v / 2 ^ (8 * i) / 2 ^ b % 2:Nat):Int):=by
    rw[show (1:Int)=((1:Nat):Int) from rfl,Ae8 (by simp only[qH];omega) (by decide),Bw,B10 v _ _ (by omega) hs,Bh,AP,← AA]
   have hbit:v / 2 ^ (8 * i) / 2 ^ b % 2 < 2:=Av _ (by decide)
   have hp:2 ^ b≤128:=AT (A6 (by decide) (show b≤7 by omega)) (by decide)
   have hp1:1≤2 ^ b:=Bu
   have hmu:v / 2 ^ (8 * i) / 2 ^ b % 2 * 2 ^ b≤1 * 128:=Bk (by omega) hp
   have hw':w < 2 ^ b:=by rw[hw];exact Av _ (B6 _)
   rw[hq,show decide ((b:Int) < 8)=true from Ad (by omega),e8,et,em,qP (n:=(8 * i+b) / 26) (by omega)]
   simp only[nn,tn,Af]
   rw[zO (n:=5) (by omega),show decide ((((8 * i+b) % 26:Nat):Int) < 0)=false from Ae (by omega),show decide ((b:Int) < 0)=false from Ae (by omega),hm2,hm3,yT,fI,hand,qP (n:=v / 2 ^ (8 * i) / 2 ^ b % 2) (by omega),BH7,qP (n:=v / 2 ^ (8 * i) / 2 ^ b % 2 * 2 ^ b) (by omega),Au5 (by simp only[qH];omega) (by simp only[qH];omega),zB (i:=b) (by omega),B3F hw' hbit,hw,← A87]
   rfl)
  0 (by rw[AF,Nat.mod_one])).1
 exact this
end Go.Rf.S

end
section
namespace Go.Rf.S
set_option maxRecDepth 100000
theorem A1I (a b:List Nat):cl (a++b)=cl a++cl b:=by unfold cl;exact AQ
theorem B2E (pre:List Nat) (n:Nat) (z:Nat):(cl pre++Ab (n+1) (0:Int)).set pre.length (z:Int)=cl (pre++[z])++Ab n (0:Int):=by
 rw[A1I,Az,List.set_append_right _ _ (by rw[cH];exact Aj _),cH,Bf,AS]
 rfl
theorem A5j (pre:List Nat):AB (fun n:Int=>Ax (Am n)) (cl pre)=pre.map fun n=>Ax n:=by
 unfold cl
 rw[Bb]
 apply Bp
 intro n _
 show Ax (Am (n:Int))=_
 rw[tn]
theorem BP1 (v:Nat) (k:List UInt8) (hk:k.length=16):fD R (cl (L5 v)) k=some (B3P v k,()):=by
 have hq:fD R (cl (L5 v)) k=_:=call (A0w R L (cl (L5 v)) k)
 have:=(yX (fun (s:List Nat × Nat) i=>xX R L k (cl (L5 v)) (cl s.1++Ab (16 - s.1.length) (0:Int)) (s.2:Int) (16:Nat) i) (stG v k) B2V 16
  (fun s=>some (s.1.map fun n=>Ax n,()))
  (fun s hs=>by
   have hq:xX R L k (cl (L5 v)) (cl s.1++Ab (16 - s.1.length) (0:Int)) (s.2:Int) (16:Nat) (16:Nat)=_:=round (by kernel_rfl) (AF6 R L k _ _ (s.2:Int) (16:Nat) (16:Nat))
   show xX R L k (cl (L5 v)) (cl s.1++Ab (16 - s.1.length) (0:Int)) (s.2:Int) (16:Nat) (16:Nat)=_
   rw[hq,jG (Aj _),hs.1,Bf,Bq,A5,A5j]
   rfl)
  (fun s i hi hs=>by
   refine⟨?_,hs.step⟩
   have hq:xX R L k (cl (L5 v)) (cl s.1++Ab (16 - s.1.length) (0:Int)) (s.2:Int) (16:Nat) (i:Nat)=_:=round (by kernel_rfl) (AF6 R L k _ _ (s.2:Int) (16:Nat) (i:Nat))
   show xX R L k (cl (L5 v)) (cl s.1++Ab (16 - s.1.length) (0:Int)) (s.2:Int) (16:Nat) (i:Nat)=xX R L k (cl (L5 v)) (cl (s.1++[(s.2+(v / 2 ^ (8 * i) % 256+bt k i)) % 256])++Ab (16 - (s.1++[(s.2+(v / 2 ^ (8 * i) % 256+bt k i)) % 256]).length) (0:Int)) (((s.2+(v / 2 ^ (8 * i) % 256+bt k i)) / 256:Nat):Int) (16:Nat) ((i+1:Nat):Int)
   rw[hq,lZ hi]
   simp only[Af]
   have hl:=hs.1
   rw[B0N v k hk i hi _ (by rw[Ai,cH,Aw];omega) s.2 hs.2,hl,show 16 - i=(15 - i)+1 by omega]
   have:=B2E s.1 (15 - i) ((s.2+(v / 2 ^ (8 * i) % 256+bt k i)) % 256)
   rw[hl] at this
   rw[this,Ai,hl,show 16 - (i+[(s.2+(v / 2 ^ (8 * i) % 256+bt k i)) % 256].length)=15 - i by simp only[Ak,Ao];omega])
  ([],0) ⟨rfl,An _⟩).1
 rw[hq]
 exact this
theorem B1T (v i:Nat) (hi:i < 16):(18 < 8 * i % 26→((L5 v).getD (8 * i / 26) 0 / 2 ^ (8 * i % 26)+(L5 v).getD (8 * i / 26+1) 0 * 2 ^ (26 - 8 * i % 26)) % 256=v / 2 ^ (8 * i) % 256)∧(¬ 18 < 8 * i % 26→(L5 v).getD (8 * i / 26) 0 / 2 ^ (8 * i % 26) % 256=v / 2 ^ (8 * i) % 256):=by
 obtain rfl|rfl|rfl|rfl|rfl|rfl|rfl|rfl|rfl|rfl|rfl|rfl|rfl|rfl|rfl|rfl:i=0∨i=1∨i=2∨i=3∨i=4∨i=5∨i=6∨i=7∨i=8∨i=9∨i=10∨i=11∨i=12∨i=13∨i=14∨i=15:=by omega
 all_goals
  refine⟨fun h=>?_,fun h=>?_⟩
  all_goals first
   | (exfalso;revert h;decide)
   | (clear h;simp only[L5,Nat.reduceMul,Nat.reduceMod,Nat.reduceDiv,Nat.reduceAdd,Nat.reduceSub,Nat.reducePow,Bn,Bo];omega)
theorem B28 (a:Nat):a &&& 255=a % 256:=Nat.and_two_pow_sub_one_eq_mod a 8
theorem B4Y {a:Nat} (h:a < qH .i64):wB .and .i64 (a:Int) 255=((a % 256:Nat):Int):=by
 rw[show (255:Int)=((255:Nat):Int) from rfl,Ae8 h (by decide),B28]
theorem BI3 (v:Nat) (v0:List UInt8) (h0:v0.length=32):sG R L v0 (cl (L5 v)) ([]:List Int) (0:Int) (0:Int)=some (B3P v (v0.drop 16),()):=by
 have:=(yX (fun (s:List Nat × Nat) i=>sG R L v0 (cl (L5 v)) (cl s.1) (s.2:Int) i) (stG v (v0.drop 16)) B2V 16
  (fun s=>some (s.1.map fun n=>Ax n,()))
  (fun s hs=>by
   have hq:sG R L v0 (cl (L5 v)) (cl s.1) (s.2:Int) (16:Nat)=_:=round (by kernel_rfl) (Av3 R L v0 _ _ (s.2:Int) (16:Nat))
   show sG R L v0 (cl (L5 v)) (cl s.1) (s.2:Int) (16:Nat)=_
   rw[hq,show decide (((16:Nat):Int) < 16)=false from by decide,A5j]
   rfl)
  (fun s i hi hs=>by
   refine⟨?_,hs.step⟩
   have hq:sG R L v0 (cl (L5 v)) (cl s.1) (s.2:Int) (i:Nat)=_:=round (by kernel_rfl) (Av3 R L v0 _ _ (s.2:Int) (i:Nat))
   show sG R L v0 (cl (L5 v)) (cl s.1) (s.2:Int) (i:Nat)=sG R L v0 (cl (L5 v)) (cl (s.1++[(s.2+(v / 2 ^ (8 * i) % 256+bt (v0.drop 16) i)) % 256])) (((s.2+(v / 2 ^ (8 * i) % 256+bt (v0.drop 16) i)) / 256:Nat):Int) ((i+1:Nat):Int)
   obtain⟨hl,hc⟩:=hs
   have hbe:bt (v0.drop 16) i=bt v0 (16+i):=by
    unfold bt
    rw[Ag,Ag,AH]
   have hb:=oF v0 (16+i)
   have e8:Ac .i64 (8 * (i:Int))=((8 * i:Nat):Int):=by rw[show (8:Int)=((8:Nat):Int) from rfl,dB (by simp only[qH];omega)]
   have et:By ((8 * i:Nat):Int) 26=((8 * i / 26:Nat):Int):=rfl
   have em:A7 ((8 * i:Nat):Int) 26=((8 * i % 26:Nat):Int):=rfl
   have e16:Ac .i64 (16+(i:Int))=((16+i:Nat):Int):=by rw[show (16:Int)=((16:Nat):Int) from rfl,uP (by simp only[qH];omega)]
   have hw0:Ac .i64 ((Bj (v0.getD (16+i) 0):Nat):Int)=((bt v0 (16+i):Nat):Int):=qP (by show bt v0 (16+i) < _;omega)
   have hs26:8 * i % 26 < 26:=Av _ (by decide)
   have hmn:Ay (8 * i % 26) (Al .i64)=8 * i % 26:=Aq (by show _≤64;omega)
   have hg:=(Az9 v).get (by decide) (8 * i / 26)
   have hg1:=(Az9 v).get (by decide) (8 * i / 26+1)
   have hdl:(L5 v).getD (8 * i / 26) 0 / 2 ^ (8 * i % 26)≤(L5 v).getD (8 * i / 26) 0:=AR _ _
   have hm:=Av (v / 2 ^ (8 * i)) (show 0 < 256 by decide)
   obtain⟨b1,b2⟩:=B1T v i hi
   rw[hq,show decide ((i:Int) < 16)=true from Ad (by omega),e8,et,em,e16,qP (n:=8 * i / 26) (by omega),hbe,zB (i:=i) (by omega)]
   simp only[nn,tn,Af]
   rw[zO (n:=5) (show 8 * i / 26 < 5 by omega),show decide (((8 * i % 26:Nat):Int) < 0)=false from Ae (by omega),hmn,zO (n:=v0.length) (by omega),hw0,yT,fI]
   simp only[Af,Ah]
   have h8:∀ z:Nat,AZ ((z:Nat):Int) (2 ^ Ay (Am 8) (Al .i64))=((z / 256:Nat):Int):=fun z=>fI _ 8
   by_cases h18:18 < 8 * i % 26
   ·rw[show decide ((18:Int) < ((8 * i % 26:Nat):Int))=true from Ad (by omega),zB (i:=8 * i / 26) (by omega)]
    simp only[Af,nn,tn]
    have e26:Ac .i64 (26 - ((8 * i % 26:Nat):Int))=((26 - 8 * i % 26:Nat):Int):=by rw[zI (by omega) (by omega)];omega
    have hmn2:Ay (26 - 8 * i % 26) (Al .i64)=26 - 8 * i % 26:=Aq (by show _≤64;omega)
    have hp2:2 ^ (26 - 8 * i % 26)≤128:=AT (A6 (by decide) (show 26 - 8 * i % 26≤7 by omega)) (by decide)
    have hmul:(L5 v).getD (8 * i / 26+1) 0 * 2 ^ (26 - 8 * i % 26)≤67108863 * 128:=Bk (by omega) hp2
    rw[zO (n:=5) (show 8 * i / 26+1 < 5 by omega),e26,show decide (((26 - 8 * i % 26:Nat):Int) < 0)=false from Ae (by omega),tn,hmn2,yT,BH7,qP (n:=(L5 v).getD (8 * i / 26+1) 0 * 2 ^ (26 - 8 * i % 26)) (by omega),uP (by simp only[qH];omega),B4Y (by simp only[qH];omega),b1 h18,uP (by simp only[qH];omega),uP (by simp only[qH];omega),qK,h8,wF (by rw[cH];simp only[Ak,Ao];omega)]
    simp only[Af,Ah]
    rw[A1I]
    rfl
   ·rw[show decide ((18:Int) < ((8 * i % 26:Nat):Int))=false from Ae (by omega)]
    simp only[Ah]
    rw[B4Y (by simp only[qH];omega),b2 h18,uP (by simp only[qH];omega),uP (by simp only[qH];omega),qK,h8,wF (by rw[cH];simp only[Ak,Ao];omega)]
    simp only[Af,Ah]
    rw[A1I]
    rfl)
  ([],0) ⟨rfl,An _⟩).1
 exact this
end Go.Rf.S

end
section
namespace Go.Rf.S
set_option maxRecDepth 100000
def cs (m:Int) (i:Nat) (v:List Int):List Int:=v.set i (wB .and .u8 (v.getD i 0) m)
def Bv9 (v:List Int):List Int:=cs 252 12 (cs 252 8 (cs 252 4 (cs 15 15 (cs 15 11 (cs 15 7 (cs 15 3 v))))))
def AN7 (key:List UInt8):List UInt8:=AB (fun n:Int=>Ax (Am n)) (Bv9 (AB (fun b:UInt8=>(b.toNat:Int)) (key.take 16)))
theorem gV (m:Int) (i:Nat) (v:List Int):(cs m i v).length=v.length:=by simp[cs]
theorem BF7 {key:List UInt8} (h:16≤key.length):(AN7 key).length=16:=by
 unfold AN7 Bv9
 rw[As,gV,gV,gV,gV,gV,gV,gV,As,A2]
 omega
theorem ic0 (v:List Int) (hl:v.length=16) (i:Nat) (hi:i < 16):rY R L v (i:Int)=rY R L (cs 15 i v) ((i+4:Nat):Int):=by
 have hq:rY R L v (i:Int)=_:=round (by kernel_rfl) (Ao3 R L v (i:Int))
 rw[hq,show decide ((i:Int) < 16)=true from Ad (by omega),show Ac .i64 ((i:Int)+4)=((i+4:Nat):Int) from by rw[zI (by omega) (by omega)];omega]
 simp only[nn,tn]
 rw[zO (by omega)]
 rfl
theorem ic1 (v:List Int) (hl:v.length=16) (i:Nat) (hi:i < 16):rT R L v (i:Int)=rT R L (cs 252 i v) ((i+4:Nat):Int):=by
 have hq:rT R L v (i:Int)=_:=round (by kernel_rfl) (Al5 R L v (i:Int))
 rw[hq,show decide ((i:Int) < 16)=true from Ad (by omega),show Ac .i64 ((i:Int)+4)=((i+4:Nat):Int) from by rw[zI (by omega) (by omega)];omega]
 simp only[nn,tn]
 rw[zO (by omega)]
 rfl
theorem sc0 (v:List Int) (hl:v.length=16) (i:Nat) (hi:i < 16):sI R L v (i:Int)=sI R L (cs 15 i v) ((i+4:Nat):Int):=by
 have hq:sI R L v (i:Int)=_:=round (by kernel_rfl) (Ac1 R L v (i:Int))
 rw[hq,show decide ((i:Int) < 16)=true from Ad (by omega),show Ac .i64 ((i:Int)+4)=((i+4:Nat):Int) from by rw[zI (by omega) (by omega)];omega]
 simp only[nn,tn]
 rw[zO (by omega)]
 rfl
theorem sc1 (v:List Int) (hl:v.length=16) (i:Nat) (hi:i < 16):tQ R L v (i:Int)=tQ R L (cs 252 i v) ((i+4:Nat):Int):=by
 have hq:tQ R L v (i:Int)=_:=round (by kernel_rfl) (Ac2 R L v (i:Int))
 rw[hq,show decide ((i:Int) < 16)=true from Ad (by omega),show Ac .i64 ((i:Int)+4)=((i+4:Nat):Int) from by rw[zI (by omega) (by omega)];omega]
 simp only[nn,tn]
 rw[zO (by omega)]
 rfl
theorem A8K (key:List UInt8) (h:16≤key.length):AK2 R key=some (AN7 key,()):=by
 have hq:AK2 R key=_:=call (A7r R L key)
 rw[hq,show Am 16=16 from rfl,show A' 16 key.length=true from by rw[Ba];exact h,AI]
 simp only[Af]
 have l0:(AB (fun b:UInt8=>(b.toNat:Int)) (key.take 16)).length=16:=by rw[As,A2];omega
 unfold AN7
 generalize AB (fun b:UInt8=>(b.toNat:Int)) (key.take 16)=v at l0 ⊢
 have e1:∀ v,rY R L v ((19:Nat):Int)=rT R L v ((4:Nat):Int):=fun v=>by
  have hq:rY R L v ((19:Nat):Int)=_:=round (by kernel_rfl) (Ao3 R L v ((19:Nat):Int))
  rw[hq];rfl
 have e2:∀ v,rT R L v ((16:Nat):Int)=some (AB (fun n:Int=>Ax (Am n)) v,()):=fun v=>by
  have hq:rT R L v ((16:Nat):Int)=_:=round (by kernel_rfl) (Al5 R L v ((16:Nat):Int))
  rw[hq];rfl
 show rY R L v ((3:Nat):Int)=_
 rw[ic0 v l0 3 (by decide),ic0 _ (by simp only[gV];exact l0) 7 (by decide),ic0 _ (by simp only[gV];exact l0) 11 (by decide),ic0 _ (by simp only[gV];exact l0) 15 (by decide),e1,
  ic1 _ (by simp only[gV];exact l0) 4 (by decide),ic1 _ (by simp only[gV];exact l0) 8 (by decide),ic1 _ (by simp only[gV];exact l0) 12 (by decide),e2]
 rfl
theorem BR2 (key:List UInt8) (h:16≤key.length):AB3 R key=some (AN7 key,()):=by
 have hq:AB3 R key=_:=call (A6V R L key)
 rw[hq,show Am 16=16 from rfl,show A' 16 key.length=true from by rw[Ba];exact h,AI]
 simp only[Af]
 have l0:(AB (fun b:UInt8=>(b.toNat:Int)) (key.take 16)).length=16:=by rw[As,A2];omega
 unfold AN7
 generalize AB (fun b:UInt8=>(b.toNat:Int)) (key.take 16)=v at l0 ⊢
 have e1:∀ v,sI R L v ((19:Nat):Int)=tQ R L v ((4:Nat):Int):=fun v=>by
  have hq:sI R L v ((19:Nat):Int)=_:=round (by kernel_rfl) (Ac1 R L v ((19:Nat):Int))
  rw[hq];rfl
 have e2:∀ v,tQ R L v ((16:Nat):Int)=some (AB (fun n:Int=>Ax (Am n)) v,()):=fun v=>by
  have hq:tQ R L v ((16:Nat):Int)=_:=round (by kernel_rfl) (Ac2 R L v ((16:Nat):Int))
  rw[hq];rfl
 show sI R L v ((3:Nat):Int)=_
 rw[sc0 v l0 3 (by decide),sc0 _ (by simp only[gV];exact l0) 7 (by decide),sc0 _ (by simp only[gV];exact l0) 11 (by decide),sc0 _ (by simp only[gV];exact l0) 15 (by decide),e1,
  sc1 _ (by simp only[gV];exact l0) 4 (by decide),sc1 _ (by simp only[gV];exact l0) 8 (by decide),sc1 _ (by simp only[gV];exact l0) 12 (by decide),e2]
 rfl
def eY (t:List UInt8) (i:Nat):List UInt8:=(t.take (min (i+16) t.length)).drop i++[1]
theorem Bf2 {t:List UInt8} {i:Nat} (h:i < t.length):2≤(eY t i).length∧(eY t i).length≤17:=by
 unfold eY
 rw[Ai,Au,A2]
 simp only[Ak,Ao]
 omega
theorem BP7 (t:List UInt8) (h:t.length≤16):leV (t++[1]) < 680564733841876926926749214863536422912:=by
 rw[AY6]
 have h1:=A9q t
 have h2:256 ^ t.length≤256 ^ 16:=A6 (by decide) h
 have h3:(256:Nat) ^ 16=340282366920938463463374607431768211456:=by decide
 have h4:leV [1]=1:=by decide
 rw[h4]
 omega
theorem A7l {t:List UInt8} {i:Nat} (h:i < t.length):leV (eY t i) < 680564733841876926926749214863536422912:=BP7 _ (by
 rw[Au,A2];omega)
theorem Bt9 (a b:Nat):A3H (a:Int) (b:Int)=((min a b:Nat):Int):=by
 unfold A3H
 by_cases h:(b:Int) < (a:Int)
 ·rw[Ad h];simp only[Af];rw[Nat.min_eq_right (by omega)]
 ·rw[Ae h];simp only[Ah];rw[Aq (by omega)]
theorem A2w {a b:Nat} (h:a≤b):A' a b=true:=by rw[Ba];exact h
theorem BB3 (v0 v1:List UInt8) (v5 v6:List Int) (v7:Int):∀ (n:Nat) (b:List UInt8),b.length+n=17→mO R L v0 v1 v5 v6 v7 b=(gO R (b++Ab n 0)).bind fun r0=>rS R L v0 v1 v5 v6 v7 r0.1 0
 | 0,b,h=>by
  have hq:mO R L v0 v1 v5 v6 v7 b=_:=round (by kernel_rfl) (Ax4 R L v0 v1 v5 v6 v7 b)
  rw[hq,show decide ((b.length:Int) < 17)=false from Ae (by omega),Bq,A5]
  rfl
 | n+1,b,h=>by
  have hq:mO R L v0 v1 v5 v6 v7 b=_:=round (by kernel_rfl) (Ax4 R L v0 v1 v5 v6 v7 b)
  rw[hq,show decide ((b.length:Int) < 17)=true from Ad (by omega),wF (by simp only[Ak,Ao];omega)]
  simp only[Af]
  rw[BB3 v0 v1 v5 v6 v7 n (b++[0]) (by rw[Ai];simp only[Ak,Ao];omega),Az,AS]
  rfl
theorem Bn4 (key t:List UInt8) (hk:key.length=32) (hl:t.length≤4294967296) (r:Nat) (hr:r < 1361129467683753853853498429727072845824):
  ∀ (n i:Nat) (h g:List Nat),t.length - i≤n→Can h→Can g→vl h % PP=vl g % PP→i≤t.length+16 →
   ∃ out,eZ R L key t (cl h) (cl (L5 r)) (i:Int)=some (out,())∧qQ R L key t (cl (L5 r)) (cl g) (i:Int)=some (out,())∧out.length=16:=by
 have hrv:vl (L5 r)=r:=Bz2 hr
 have hend:∀ (i:Nat) (h g:List Nat),t.length≤i→Can h→Can g→vl h % PP=vl g % PP→∃ out,eZ R L key t (cl h) (cl (L5 r)) (i:Int)=some (out,())∧qQ R L key t (cl (L5 r)) (cl g) (i:Int)=some (out,())∧out.length=16:=by
  intro i h g hi hh hg he
  have hq:eZ R L key t (cl h) (cl (L5 r)) (i:Int)=_:=round (by kernel_rfl) (A5y R L key t (cl h) (cl (L5 r)) (i:Int))
  have hq2:qQ R L key t (cl (L5 r)) (cl g) (i:Int)=_:=round (by kernel_rfl) (Av7 R L key t (cl (L5 r)) (cl g) (i:Int))
  refine⟨B3P (if PP≤vl h then vl h - PP else vl h) (key.drop 16),?_,?_,?_⟩
  ·rw[hq,show decide ((i:Int) < (t.length:Nat))=false from Ae (by omega),A8P h hh,Bu3 hh]
   simp only[Ah,Aa]
   rw[show Am 16=16 from rfl,A2w (Aj _),A2w (show 16≤key.length by omega),A9,BP1 _ _ (by rw[Au];omega)]
   rfl
  ·rw[hq2,show decide ((i:Int) < (t.length:Nat))=false from Ae (by omega),A55 g hg.l (fun z hz=>Ar (hg.b z hz) (by decide)),Bv0 hg]
   simp only[Ah,Aa]
   rw[Bj3 g hg,Bu3 hg,B23 (B15 hh) (B15 hg) he]
   simp only[Aa]
   exact BI3 _ key hk
  ·have inv:∀ (m j:Nat) (s:List Nat × Nat) (v:Nat) (k:List UInt8),s.1.length=j→(vM (stG v k) m j s).1.length=j+m:=by
    intro m
    induction m with
    | zero=>intro j s v k hs;exact hs
    | succ m ih=>
     intro j s v k hs
     show (vM (stG v k) m (j+1) (stG v k j s)).1.length=_
     rw[ih (j+1) _ v k (by simp[stG,hs])];omega
   unfold B3P
   rw[As,inv 16 0 _ _ _ rfl]
 intro n
 induction n with
 | zero=>intro i h g hn hh hg he hi;exact hend i h g (by omega) hh hg he
 | succ n ih=>
  intro i h g hn hh hg he hi
  rcases Nat.lt_or_ge i t.length with hlt|hge
  ·have hq:eZ R L key t (cl h) (cl (L5 r)) (i:Int)=_:=round (by kernel_rfl) (A5y R L key t (cl h) (cl (L5 r)) (i:Int))
   have hq2:qQ R L key t (cl (L5 r)) (cl g) (i:Int)=_:=round (by kernel_rfl) (Av7 R L key t (cl (L5 r)) (cl g) (i:Int))
   have e16:Ac .i64 ((i:Int)+16)=((i+16:Nat):Int):=by rw[show (16:Int)=((16:Nat):Int) from rfl,uP (by simp only[qH];omega)]
   have hm:=A7l hlt
   obtain⟨c1,c2⟩:=Bf2 hlt
   have hm130:leV (eY t i) < 1361129467683753853853498429727072845824:=by omega
   have hlv:vl (L5 (leV (eY t i)))=leV (eY t i):=Bz2 hm130
   have hcut:((t.take (min (i+16) t.length)).drop i).length≤16:=by rw[Au,A2];omega
   have hA:=BZ9 hh.b (Az9 (leV (eY t i)))
   have hB:=BZ9 hg.b (Az9 (leV (eY t i)))
   have lift:∀ {z:List Nat},Bd 134217728 z→Bd 288230376151711744 z:=fun hz y hy=>Ar (hz y hy) (by decide)
   obtain⟨k1,k2,_⟩:=A6H (x:=ADD h (L5 (leV (eY t i)))) rfl (lift hA)
   have kB:Bd 134217728 (CAR (ADD h (L5 (leV (eY t i))))):=fun y hy=>Ar (k1.b y hy) (by decide)
   obtain⟨m1,m2,_⟩:=A6H (x:=TIM (CAR (ADD h (L5 (leV (eY t i))))) (L5 r)) rfl (A9K kB (Az9 r))
   obtain⟨s1,s2,_⟩:=A6H (x:=TIM (ADD g (L5 (leV (eY t i)))) (L5 r)) rfl (A9K hB (Az9 r))
   have hmod:vl (CAR (TIM (CAR (ADD h (L5 (leV (eY t i))))) (L5 r))) % PP=vl (CAR (TIM (ADD g (L5 (leV (eY t i)))) (L5 r))) % PP:=by
    rw[m2,s2,Bv6,Bv6,hrv,Nat.mul_mod,k2,Bt8,Bt8,hlv,Nat.add_mod (vl h),he,← Nat.add_mod,← Nat.mul_mod]
   obtain⟨out,o1,o2,o3⟩:=ih (i+16) _ _ (by omega) m1 s1 hmod (by omega)
   refine⟨out,?_,?_,o3⟩
   ·rw[hq,show decide ((i:Int) < (t.length:Nat))=true from Ad (by omega),e16,Bt9]
    simp only[nn,tn,Af]
    rw[A2w (show min (i+16) t.length≤t.length from B2 _ _),A2w (show i≤min (i+16) t.length by omega),wF (by simp only[Ak,Ao];omega)]
    simp only[Af]
    show (eU R (eY t i)).bind _=_
    rw[A1U _ c2 hm130]
    simp only[Aa]
    rw[Bm7 _ _ hh.l hh.b (Az9 _)]
    simp only[Aa]
    rw[Bh6 _ _ k1.l kB (Az9 r)]
    exact o1
   ·rw[hq2,show decide ((i:Int) < (t.length:Nat))=true from Ad (by omega),e16,Bt9,Nat.min_comm]
    simp only[nn,tn,Af]
    rw[A2w (show min (i+16) t.length≤t.length from B2 _ _),A2w (show i≤min (i+16) t.length by omega),wF (by simp only[Ak,Ao];omega)]
    simp only[Af]
    show mO R L key t (cl (L5 r)) (cl g) (i:Int) (eY t i)=_
    have hz:leV (eY t i++Ab (17 - (eY t i).length) 0)=leV (eY t i):=by rw[AY6,A52];simp
    have h17:(eY t i++Ab (17 - (eY t i).length) 0).length=17:=by rw[Ai,Aw];omega
    have hb16:bt (eY t i++Ab (17 - (eY t i).length) 0) 16 < 4:=by
     rw[← A4p,hz]
     have:(256:Nat) ^ 16=340282366920938463463374607431768211456:=by decide
     rw[this]
     omega
    rw[BB3 key t (cl (L5 r)) (cl g) (i:Int) (17 - (eY t i).length) (eY t i) (by omega),A5c _ h17 hb16,hz]
    simp only[Aa]
    rw[Bo7 g (L5 (leV (eY t i))) hg.l hg.b (Az9 _),BQ5 _ _ rfl hB (Az9 r)]
    simp only[Aa]
    rw[e16]
    exact o2
  ·exact hend i h g hge hh hg he
theorem B4J:Can (Ab 5 0):=⟨rfl,Bd.rep (by decide)⟩
theorem Bt6 (key t:List UInt8) (hk:key.length=32) (hl:t.length≤4294967296):∃ out,A1t R key t=some (out,())∧bW R key t=some (out,())∧out.length=16:=by
 have hq:A1t R key t=_:=call (B1H R L key t)
 have hq2:bW R key t=_:=call (BD0 R L key t)
 have hcl:=BF7 (key:=key) (by omega)
 have hr:leV (AN7 key) < 1361129467683753853853498429727072845824:=by
  have:=A9q (AN7 key)
  rw[hcl] at this
  exact Ar this (by decide)
 obtain⟨out,h1,h2,h3⟩:=Bn4 key t hk hl (leV (AN7 key)) hr t.length 0 (Ab 5 0) (Ab 5 0) (by omega) B4J B4J rfl (by omega)
 refine⟨out,?_,?_,h3⟩
 ·rw[hq,A8K key (by omega)]
  simp only[Aa]
  rw[A1U _ (by omega) hr]
  exact h1
 ·rw[hq2,BR2 key (by omega)]
  simp only[Aa]
  have hz:leV (AN7 key++[0])=leV (AN7 key):=by rw[AY6];simp[leV]
  have hb:bt (AN7 key++[0]) 16 < 4:=by
   unfold bt
   rw[Ag,AD (by omega),hcl]
   decide
  rw[wF (by rw[hcl];decide),A5c _ (by rw[Ai,hcl];rfl) hb,hz]
  exact h2
end Go.Rf.S

end
section
namespace Go.Rf.S
set_option maxRecDepth 100000
theorem Aw6 (l:List Nat):(ub l).length=l.length:=As _
theorem Ao2 (v:Nat):(ub (lit v 8)).length=8:=by rw[Aw6,AF1 v 8 (by decide)]
def Bw4 (t:List UInt8):List UInt8:=t++ub (Ab ((16 - t.length % 16) % 16) 0)
theorem A4B (t:List UInt8):(Bw4 t).length=t.length+(16 - t.length % 16) % 16:=by
 unfold Bw4;rw[Ai,Aw6,Aw]
theorem A9y (t:List UInt8) (ht:t.length≤549755813888):AF4 R t=some (Bw4 t,()):=by
 have hq:AF4 R t=_:=call (BN2 R L t)
 have e1:A7 (t.length:Int) 16=((t.length % 16:Nat):Int):=rfl
 have e2:Ac .i64 (16 - ((t.length % 16:Nat):Int))=((16 - t.length % 16:Nat):Int):=by rw[zI (by omega) (by omega)];omega
 have e3:A7 ((16 - t.length % 16:Nat):Int) 16=(((16 - t.length % 16) % 16:Nat):Int):=rfl
 rw[hq,e1,e2,e3,A45 _ (by omega)]
 simp (disch:=omega) only[st,Aw6,Aw]
 rfl
theorem B2B:∀ (n:Nat) (t:List UInt8),(t.length+n) % 16=0→n < 16→t.length≤549755813888→gZ R L t=some (t++ub (Ab n 0),())
 | n,t,h,hn,ht=>by
  have hq:gZ R L t=_:=round (by kernel_rfl) (A62 R L t)
  have e1:A7 (t.length:Int) 16=((t.length % 16:Nat):Int):=rfl
  rw[hq,e1]
  cases n with
  | zero=>
   simp (disch:=omega) only[st,Ap]
   rw[show ub (Ab 0 0)=[] from rfl,A5]
  | succ n=>
   simp (disch:=omega) only[st,A8]
   rw[B2B n (t++[0]) (by rw[Ai];simp only[Ak,Ao];omega) (by omega) (by rw[Ai];simp only[Ak,Ao];omega),Az]
   rfl
theorem A9x (t:List UInt8) (ht:t.length≤549755813888):AH3 R t=some (Bw4 t,()):=
 AJ (call (BI6 R L t):AH3 R t=_) (B2B _ t (by omega) (by omega) ht)
theorem A8o (v:Nat):gK R (v:Int)=some (ub (lit v 8),()):=by
 have hq:gK R (v:Int)=_:=call (A6x R L (v:Int))
 refine hq.trans (yX (fun (o:List Nat) i=>qE R L (v:Int) (cl o) i) (stL v) (fun i o=>o.length=i) 8 (fun o=>some (ub o,()))
  (fun o _=>?_) (fun o i hi ho=>⟨?_,by unfold stL;rw[Ai,ho];rfl⟩) [] rfl).1
 ·have hq:qE R L (v:Int) (cl o) (8:Nat)=_:=round (by kernel_rfl) (Ab9 R L (v:Int) (cl o) (8:Nat))
  show qE R L (v:Int) (cl o) (8:Nat)=_
  rw[hq,A0x];rfl
 ·have hq:qE R L (v:Int) (cl o) (i:Nat)=_:=round (by kernel_rfl) (Ab9 R L (v:Int) (cl o) (i:Nat))
  show qE R L (v:Int) (cl o) (i:Nat)=_
  have e8:Ac .i64 ((8:Int) * (i:Int))=((8 * i:Nat):Int):=by rw[zI (by omega) (by omega)];omega
  rw[hq,e8,tn,show Ay (8 * i) (Al .i64)=8 * i from Aq (by simp only[Al];omega),fI,qK,zB (by omega)]
  simp (disch:=omega) only[st,dT,dF,cH]
  rw[show [((v / 2 ^ (8 * i) % 256:Nat):Int)]=cl [v / 2 ^ (8 * i) % 256] from rfl,Ak7]
  rfl
noncomputable def B1i (key t:List UInt8):List UInt8:=((bW R key t).getD ([],())).1
theorem B30 {key t:List UInt8} (hk:key.length=32) (hl:t.length≤4294967296):A1t R key t=some (B1i key t,())∧bW R key t=some (B1i key t,())∧(B1i key t).length=16:=by
 obtain⟨out,h1,h2,h3⟩:=Bt6 key t hk hl
 have e:B1i key t=out:=by unfold B1i;rw[h2];rfl
 rw[e];exact⟨h1,h2,h3⟩
noncomputable def btF (key nonce ad t:List UInt8):List UInt8:=B1i ((chB key nonce 0).take 32) (((Bw4 ad++Bw4 t)++ub (lit ad.length 8))++ub (lit t.length 8))
theorem Bs2 {key nonce ad t:List UInt8} (hk:key.length=32) (hn:nonce.length=12) (ha:ad.length≤1073741824) (hl:t.length≤1073741824):
  AX6 R key nonce ad t=some (btF key nonce ad t,())∧AV0 R key nonce ad t=some (btF key nonce ad t,())∧(btF key nonce ad t).length=16:=by
 have hB:(chB key nonce 0).length=64:=Ag1 hk hn (by decide)
 obtain⟨h1,h2,h3⟩:=B30 (key:=(chB key nonce 0).take 32) (t:=((Bw4 ad++Bw4 t)++ub (lit ad.length 8))++ub (lit t.length 8)) (by rw[A2];omega)
  (by simp only[Ai,A4B,Ao2];omega)
 have e1:AF7 R key nonce 0=some (chB key nonce 0,()):=(A3U key nonce hk hn 0 (by decide)).1
 have e2:mE R key nonce 0=some (chB key nonce 0,()):=A2i key nonce hk hn 0 (by decide)
 have l8:∀ v:Nat,uH R (v:Int) 8=some (ub (lit v 8),()):=fun v=>AY9 v 8 (by decide)
 refine⟨?_,?_,h3⟩
 ·rw[show AX6 R key nonce ad t=_ from call (BG4 R L key nonce ad t),e1,A9y ad (by omega),A9y t (by omega),l8,l8]
  simp (disch:=omega) only[st,hB,A4B,Ao2,show (32:Int).toNat=32 from rfl,AI,h1]
  rfl
 ·rw[show AV0 R key nonce ad t=_ from call (BE9 R L key nonce ad t),e2,A9x ad (by omega),A9x t (by omega),A8o,A8o]
  simp (disch:=omega) only[st,hB,A4B,Ao2,show (32:Int).toNat=32 from rfl,AI,h2]
  rfl
theorem A4w (key nonce:List UInt8) (hk:key.length=32) (hn:nonce.length=12) (count:Nat) (t:List UInt8) (ht:t.length≤1073741824) (hc:count≤1024):∀ k,64 * k≤t.length+63 →
  (BN9 BM9 (chB key nonce) count t k).length=min (64 * k) t.length∧∀ i,i < min (64 * k) t.length→bt (BN9 BM9 (chB key nonce) count t k) i=bt t i ^^^ bt (chB key nonce (count+i / 64)) (i % 64)
 | 0,_=>⟨by simp[BN9],fun i hi=>by omega⟩
 | k+1,hk'=>by
  obtain⟨h1,h2⟩:=A4w key nonce hk hn count t ht hc k (by omega)
  have hB:(chB key nonce (count+k)).length=64:=Ag1 hk hn (by omega)
  have hl:((t.drop (64 * k)).take 64).length=min 64 (t.length - 64 * k):=by rw[A2,Au]
  have hx:(BM9 ((t.drop (64 * k)).take 64) (chB key nonce (count+k))).length=min 64 (t.length - 64 * k):=by rw[Ai1 _ _ (by omega),hl]
  refine⟨by rw[BN9,Ai,h1,hx];omega,fun i hi=>?_⟩
  rw[BN9]
  by_cases hi64:i < min (64 * k) t.length
  ·rw[Ar0 (by omega),h2 i hi64]
  ·have hb:bt ((t.drop (64 * k)).take 64) (i - min (64 * k) t.length)=bt t i:=by
    unfold bt
    rw[AF2 _ (by omega),Ag,Ag,AH,show 64 * k+(i - min (64 * k) t.length)=i by omega]
   rw[Ap7 (by omega),h1,A4P _ _ _ (by omega) (by omega),hb,show i / 64=k by omega,show i % 64=i - min (64 * k) t.length by omega]
theorem Bp8 (key nonce:List UInt8) (hk:key.length=32) (hn:nonce.length=12) (count:Nat) (t:List UInt8) (ht:t.length≤1073741824) (hc:count≤1024):
  BN9 BM9 (chB key nonce) count t ((t.length+63) / 64)=chX key nonce (t.length / 64+1) count t:=by
 obtain⟨a1,a2⟩:=A4w key nonce hk hn count t ht hc ((t.length+63) / 64) (by omega)
 obtain⟨b1,b2⟩:=A0e key nonce hk hn (t.length / 64+1) count t (by omega) (by omega)
 refine BS5 (by rw[a1,b1];omega) fun i hi=>?_
 rw[a1] at hi
 rw[a2 i hi,b2 i (by omega)]
theorem Bi9 (key nonce:List UInt8) (hk:key.length=32) (hn:nonce.length=12) (count:Nat) (t:List UInt8) (ht:t.length≤1048576) (hc:count≤1024):
  As6 R key nonce (count:Int) t=some (chX key nonce (t.length / 64+1) count t,()):=by
 refine (BL6 (f:=273) rfl _).trans (A5N (E:=EE) (f:=273) (x:=(chX key nonce (t.length / 64+1) count t,())) ?_ ?_)
 ·rfl
 ·rw[← Bp8 key nonce hk hn count t (by omega) hc]
  exact BW6 (E:=EE) rfl BM9 (chB key nonce) key nonce t count ht (by omega)
   (fun c hc=>BI2 _ _ _ (A3U key nonce hk hn c (by omega)).1)
   (fun a c hc ha=>BI2 _ _ _ (B3U a (chB key nonce c) (by rw[Ag1 hk hn (by omega)];exact ha) (by rw[Ag1 hk hn (by omega)];decide)))
   (fun a c hc ha=>by rw[Ai1 _ _ (by rw[Ag1 hk hn (by omega)];exact ha)];exact ha)
end Go.Rf.S

end
section
namespace Go.Rf.S
set_option maxRecDepth 100000
def Bz0 (kind place epoch:Nat):List UInt8:=((ub (lit kind 1)++ub (lit place 2))++ub (lit 0 1))++ub (lit epoch 8)
theorem Bj4 (a b c:Nat):(Bz0 a b c).length=12:=by
 unfold Bz0
 simp only[Ai,Aw6,AF1 _ _ (show 8≤8 by decide),AF1 _ _ (show 1≤8 by decide),AF1 _ _ (show 2≤8 by decide)]
theorem Bf0 (a b c:Nat):AM3 R (a:Int) (b:Int) (c:Int)=some (Bz0 a b c,())∧AD4 R (a:Int) (b:Int) (c:Int)=some (Bz0 a b c,()):=by
 have e1:∀ v:Nat,uH R (v:Int) 1=some (ub (lit v 1),()):=fun v=>AY9 v 1 (by decide)
 have e2:∀ v:Nat,uH R (v:Int) 2=some (ub (lit v 2),()):=fun v=>AY9 v 2 (by decide)
 have e8:∀ v:Nat,uH R (v:Int) 8=some (ub (lit v 8),()):=fun v=>AY9 v 8 (by decide)
 have e0:uH R 0 1=some (ub (lit 0 1),()):=e1 0
 have l1:∀ v,(ub (lit v 1)).length=1:=fun v=>by rw[Aw6,AF1 _ _ (by decide)]
 have l2:∀ v,(ub (lit v 2)).length=2:=fun v=>by rw[Aw6,AF1 _ _ (by decide)]
 constructor
 ·rw[show AM3 R (a:Int) (b:Int) (c:Int)=_ from call (A7E R L (a:Int) (b:Int) (c:Int)),e1,e2,e0,e8]
  simp (disch:=omega) only[st,l1,l2,Ao2]
  rfl
 ·have hm:Ay (8:Int).toNat (Al .i64)=8:=rfl
  rw[show AD4 R (a:Int) (b:Int) (c:Int)=_ from call (A6o R L (a:Int) (b:Int) (c:Int)),A8o,hm,fI,qK,qK,qK]
  rw[show [((a % 256:Nat):Int),((b % 256:Nat):Int),((b / 2 ^ 8 % 256:Nat):Int),0]=cl [a % 256,b % 256,b / 2 ^ 8 % 256,0] from rfl,A0x]
  simp (disch:=omega) only[st,Ao2,Aw6,Ak,Ao]
  have:ub [a % 256,b % 256,b / 2 ^ 8 % 256,0]=(ub (lit a 1)++ub (lit b 2))++ub (lit 0 1):=by
   have f1:lit a 1=[a / 2 ^ 0 % 256]:=rfl
   have f2:lit b 2=[b / 2 ^ 0 % 256,b / 2 ^ 8 % 256]:=rfl
   have f3:lit 0 1=[0]:=rfl
   rw[f1,f2,f3,AF,AO,AO];rfl
  rw[this];rfl
def blk:List UInt8:=[98,108,111,99,107]
noncomputable def B3c (key nonce ad t:List UInt8):List UInt8:=chX key nonce (t.length / 64+1) 1 t++btF key nonce ad (chX key nonce (t.length / 64+1) 1 t)
theorem B0h {key nonce:List UInt8} (hk:key.length=32) (hn:nonce.length=12) (t:List UInt8) (ht:t.length≤1048576):(chX key nonce (t.length / 64+1) 1 t).length=t.length:=
 (A0e key nonce hk hn (t.length / 64+1) 1 t (by omega) (by omega)).1
noncomputable def B0i (key:List UInt8) (a b c:Nat) (t:List UInt8):List UInt8:=B3c key (Bz0 a b c) blk t
def Bo9 (a b:List UInt8):List UInt8:=dig (([1]++a)++b)
def BN8 (at_:Nat) (t:List UInt8):List UInt8:=dig (ub [0,at_ % 256]++t)
theorem Bw8 {a b:List UInt8} (ha:a.length≤1048576) (hb:b.length≤1048576):A0O R a b=some (Bo9 a b,())∧AL7 R a b=some (Bo9 a b,()):=by
 have hl:(([1]++a)++b).length≤549755813888:=by simp only[Ai,Ak,Ao];omega
 constructor
 ·rw[show A0O R a b=_ from call (Bs4 R L a b),A9R _ hl]
  simp (disch:=omega) only[st];rfl
 ·rw[show AL7 R a b=_ from call (A7x R L a b),BQ1 _ hl]
  simp (disch:=omega) only[st];rfl
theorem Bx1 (i:Nat) {t:List UInt8} (ht:t.length≤1048576):dP R (i:Int) t=some (BN8 i t,())∧AL9 R (i:Int) t=some (BN8 i t,()):=by
 have e:AB (fun n:Int=>Ax (Am n)) [(0:Int),Ac .u8 (i:Int)]=ub [0,i % 256]:=by
  rw[qK,show [(0:Int),((i % 256:Nat):Int)]=cl [0,i % 256] from rfl,A0x]
 have hl:(ub [0,i % 256]++t).length≤549755813888:=by rw[Ai,Aw6];simp only[Ak,Ao];omega
 have h2:(ub [0,i % 256]).length=2:=rfl
 constructor
 ·rw[show dP R (i:Int) t=_ from call (A2M R L (i:Int) t),e,A9R _ hl]
  simp (disch:=omega) only[st,h2];rfl
 ·rw[show AL9 R (i:Int) t=_ from call (A8W R L (i:Int) t),e,BQ1 _ hl]
  simp (disch:=omega) only[st,h2];rfl
def sD:List (List UInt8)→List (List UInt8)
 | a :: b :: r=>Bo9 a b :: sD r
 | _=>[]
def Sh (l:List (List UInt8)):Prop:=∀ s ∈ l,s.length≤1048576
theorem AJ6:∀ l,Sh (sD l)
 | []=>fun s h=>by cases h
 | [_]=>fun s h=>by cases h
 | a :: b :: r=>fun s h=>by
  rcases Br.1 h with rfl|h
  ·unfold Bo9;rw[BR7];decide
  ·exact AJ6 r s h
theorem AU4:∀ l:List (List UInt8),(sD l).length=l.length / 2
 | []=>rfl
 | [x]=>by show 0=1 / 2;rfl
 | a :: b :: r=>by
  show (sD r).length+1=(r.length+2) / 2
  rw[AU4 r];omega
theorem Be1 (v3:List (List UInt8)) (v6:List (List (List UInt8))) (hs:Sh v3) (h3:v3.length≤64) (h6:v6.length≤64):∀ (r v7:List (List UInt8)) (j:Nat),j≤v3.length→v3.drop j=r→r.length % 2=0→v7.length+r.length≤128 →
  eM R L v3 v6 v7 (j:Int)=nD R L (v7++sD r) (v6++[v7++sD r])
 | [],v7,j,hj,hr,_,h7=>by
  have hj:v3.length≤j:=Bl.1 hr
  rw[show eM R L v3 v6 v7 (j:Int)=_ from round (by kernel_rfl) (A2b R L v3 v6 v7 (j:Int))]
  simp (disch:=omega) only[st,dF]
  rw[show sD []=[] from rfl,A5]
 | [_],v7,j,hj,hr,h,h7=>by simp at h
 | a :: b :: r,v7,j,_,hr,h,h7=>by
  obtain⟨d1,d2,d3,d4⟩:=B2C (d:=[]) hr
  have hj:=Bw8 (hs a (by rw[← d2];exact xK (by omega))) (hs b (by rw[← d3];exact xK (by omega)))
  simp only[Ak] at h h7
  rw[show eM R L v3 v6 v7 (j:Int)=_ from round (by kernel_rfl) (A2b R L v3 v6 v7 (j:Int)),A6G (by omega),zB (by omega)]
  simp (disch:=omega) only[st,dT,d2,d3,hj.1]
  rw[Be1 v3 v6 hs h3 h6 r _ (j+2) (by omega) d4 (by omega) (by rw[Ai];simp only[Ak,Ao];omega),Az]
  rfl
theorem BP0 (v3:List (List UInt8)) (hs:Sh v3) (h3:v3.length≤64):∀ (r v7:List (List UInt8)) (j:Nat),j≤v3.length→v3.drop j=r→r.length % 2=0→v7.length+r.length≤128 →
  nX R L v3 v7 (j:Int)=some (v7++sD r,())
 | [],v7,j,hj,hr,_,h7=>by
  have hj:v3.length≤j:=Bl.1 hr
  rw[show nX R L v3 v7 (j:Int)=_ from round (by kernel_rfl) (AZ9 R L v3 v7 (j:Int)),zB (by omega)]
  simp (disch:=omega) only[st,dF]
  rw[show sD []=[] from rfl,A5]
 | [_],v7,j,hj,hr,h,h7=>by simp at h
 | a :: b :: r,v7,j,_,hr,h,h7=>by
  obtain⟨d1,d2,d3,d4⟩:=B2C (d:=[]) hr
  have hj:=Bw8 (hs a (by rw[← d2];exact xK (by omega))) (hs b (by rw[← d3];exact xK (by omega)))
  simp only[Ak] at h h7
  rw[show nX R L v3 v7 (j:Int)=_ from round (by kernel_rfl) (AZ9 R L v3 v7 (j:Int)),A6G (by omega),zB (by omega)]
  simp (disch:=omega) only[st,dT,d2,d3,hj.2]
  rw[BP0 v3 hs h3 r _ (j+2) (by omega) d4 (by omega) (by rw[Ai];simp only[Ak,Ao];omega),Az]
  rfl
def qW (l:List (List UInt8)):List (List UInt8):=l.mapIdx BN8
theorem A8N (l:List (List UInt8)):(qW l).length=l.length:=List.length_mapIdx
theorem A2c (l:List (List UInt8)):Sh (qW l):=fun s h=>by
 obtain⟨i,hi,rfl⟩:=List.mem_mapIdx.1 h
 unfold BN8;rw[BR7];decide
def A44 (l:List (List UInt8)):List UInt8:=(sD (sD (sD (sD (qW l))))).getD 0 []
theorem Bk6 {v3:List (List UInt8)} {v6:List (List (List UInt8))} (hs:Sh v3) (h3:v3.length≤64) (h1:1 < v3.length) (h2:v3.length % 2=0) (h6:v6.length≤64):
  nD R L v3 v6=nD R L (sD v3) (v6++[sD v3]):=by
 rw[show nD R L v3 v6=_ from round (by kernel_rfl) (A3O R L v3 v6)]
 simp (disch:=omega) only[st,dT]
 exact Be1 v3 v6 hs h3 h6 v3 [] 0 (An _) rfl h2 (by simp only[Ao];omega)
theorem Bj8 {v3:List (List UInt8)} (hs:Sh v3) (h3:v3.length≤64) (h1:1 < v3.length) (h2:v3.length % 2=0):nH R L v3=nH R L (sD v3):=by
 have e:AD7 R v3=some (sD v3,()):=AJ (call (A6T R L v3):AD7 R v3=_) (BP0 v3 hs h3 v3 [] 0 (An _) rfl h2 (by simp only[Ao];omega))
 rw[show nH R L v3=_ from round (by kernel_rfl) (An3 R L v3),e]
 simp (disch:=omega) only[st,dT]
theorem Bv8 {l:List (List UInt8)} (hl:l.length=16) (hs:Sh l):A0Y R l=some (A44 l,())∧AI4 R l=some (A44 l,()):=by
 have a0:=A8N l
 have a1:=AU4 (qW l)
 have a2:=AU4 (sD (qW l))
 have a3:=AU4 (sD (sD (qW l)))
 have a4:=AU4 (sD (sD (sD (qW l))))
 constructor
 ·have e0:gC R L [] l (l.length:Int) 0=nD R L (qW l) [qW l]:=
   BQ0 (fun o i=>gC R L o l (l.length:Int) i) l [] BN8 (fun o=>nD R L o [o]) []
    (fun o ho=>by
     rw[show gC R L o l (l.length:Int) (l.length:Nat)=_ from round (by kernel_rfl) (A3S R L o l (l.length:Int) (l.length:Nat))]
     simp (disch:=omega) only[st,dF])
    (fun o i hi ho=>by
     rw[show gC R L o l (l.length:Int) (i:Nat)=_ from round (by kernel_rfl) (A3S R L o l (l.length:Int) (i:Nat)),zB (by omega)]
     simp only[Ao] at ho
     simp (disch:=omega) only[st,dT,(Bx1 i (hs _ (xK hi))).1])
  have e:A0T R l=some ([qW l,sD (qW l),sD (sD (qW l)),sD (sD (sD (qW l))),sD (sD (sD (sD (qW l))))],()):=by
   rw[show A0T R l=_ from call (Bs3 R L l),e0,Bk6 (A2c l) (by omega) (by omega) (by omega) (by simp),Bk6 (AJ6 _) (by omega) (by omega) (by omega) (by simp),Bk6 (AJ6 _) (by omega) (by omega) (by omega) (by simp),Bk6 (AJ6 _) (by omega) (by omega) (by omega) (by simp)]
   generalize hV:([qW l]++[sD (qW l)]++[sD (sD (qW l))]++[sD (sD (sD (qW l)))]++[sD (sD (sD (sD (qW l))))])=V
   rw[show nD R L (sD (sD (sD (sD (qW l))))) V=_ from round (by kernel_rfl) (A3O R L _ _)]
   simp (disch:=omega) only[st,dF]
   rw[← hV];rfl
  rw[show A0Y R l=_ from call (Bp2 R L l),e]
  show cond (B8 4 5) (cond (B8 0 (sD (sD (sD (sD (qW l))))).length) (some (A44 l,())) none) none=_
  rw[zO (show 0 < (sD (sD (sD (sD (qW l))))).length by omega)];rfl
 ·have e:bN R l=some (qW l,()):=AJ (call (A4a R L l):bN R l=_)
   (BQ0 (fun o i=>oH R L l o i) l [] BN8 (fun o=>some (o,())) []
    (fun o ho=>by
     rw[show oH R L l o (l.length:Nat)=_ from round (by kernel_rfl) (AQ3 R L l o (l.length:Nat))]
     simp (disch:=omega) only[st,dF])
    (fun o i hi ho=>by
     rw[show oH R L l o (i:Nat)=_ from round (by kernel_rfl) (AQ3 R L l o (i:Nat)),zB (by omega)]
     simp only[Ao] at ho
     simp (disch:=omega) only[st,dT,(Bx1 i (hs _ (xK hi))).2]))
  rw[show AI4 R l=_ from call (A85 R L l),e]
  simp only[st]
  rw[Bj8 (A2c l) (by omega) (by omega) (by omega),Bj8 (AJ6 _) (by omega) (by omega) (by omega),Bj8 (AJ6 _) (by omega) (by omega) (by omega),Bj8 (AJ6 _) (by omega) (by omega) (by omega)]
  rw[show nH R L (sD (sD (sD (sD (qW l)))))=_ from round (by kernel_rfl) (An3 R L _)]
  simp (disch:=omega) only[st,dF]
  rfl
end Go.Rf.S

end
section
namespace Go.Rf.S
set_option maxRecDepth 100000
abbrev sM:Ty:=(.pair (.int .i64) (.pair (.int .i64) (.pair (.int .i64) (.pair (.int .i64) (.pair .str (.pair .str (.pair .str .unit)))))))
abbrev eJ:Type:=(Int × (Int × (Int × (Int × (List UInt8 × (List UInt8 × (List UInt8 × Unit)))))))
theorem A8T (x:eJ) (l:Int) (h0:0≤l) (h1:l≤1048576) (hx:AZ4 sM x):dE R x l=some (szF (cnt sM x) l,()):=by
 have hq:dE R x l=_:=call (A15 R L x l)
 have hc:cnt sM x=(0+(0+(0+(0+(x.2.2.2.2.1.length+(x.2.2.2.2.2.1.length+(x.2.2.2.2.2.2.1.length+(0)))))))):=rfl
 rw[hq]
 have k1:x.2.2.2.2.1.length≤maxLen:=hx.2.2.2.2.1
 unfold maxLen at k1
 rw[zI (n:=(l - (x.2.2.2.2.1.length:Int))) (by omega) (by omega)]
 by_cases n1:l - (x.2.2.2.2.1.length:Int) < 0
 ·rw[Ad n1,hc,nV (by omega)];rfl
 rw[Ae n1]
 simp only[Ah]
 have k2:x.2.2.2.2.2.1.length≤maxLen:=hx.2.2.2.2.2.1
 unfold maxLen at k2
 rw[zI (n:=(l - (x.2.2.2.2.1.length:Int) - (x.2.2.2.2.2.1.length:Int))) (by omega) (by omega)]
 by_cases n2:l - (x.2.2.2.2.1.length:Int) - (x.2.2.2.2.2.1.length:Int) < 0
 ·rw[Ad n2,hc,nV (by omega)];rfl
 rw[Ae n2]
 simp only[Ah]
 have k3:x.2.2.2.2.2.2.1.length≤maxLen:=hx.2.2.2.2.2.2.1
 unfold maxLen at k3
 rw[zI (n:=(l - (x.2.2.2.2.1.length:Int) - (x.2.2.2.2.2.1.length:Int) - (x.2.2.2.2.2.2.1.length:Int))) (by omega) (by omega)]
 by_cases n3:l - (x.2.2.2.2.1.length:Int) - (x.2.2.2.2.2.1.length:Int) - (x.2.2.2.2.2.2.1.length:Int) < 0
 ·rw[Ad n3,hc,nV (by omega)];rfl
 rw[Ae n3]
 simp only[Ah]
 rw[hc,dZ (by omega)]
 exact AE (fun z=>some (z,())) (by omega)
theorem BM6 (x:List (List UInt8)) (l:Int) (h0:0≤l) (h1:l≤1048576) (hx:AZ4 (.sl .str) x):bO R x l=some (szF (cnt (.sl .str) x) l,()):=by
 have hq:bO R x l=_:=call (A3h R L x l)
 have hm:x.length≤maxLen:=hx.1
 unfold maxLen at hm
 have hc:cnt (.sl .str) x=x.length+(x.map (cnt .str)).sum:=rfl
 rw[hq,zI (n:=l - (x.length:Int)) (by omega) (by omega)]
 by_cases n0:l - (x.length:Int) < 0
 ·rw[Ad n0,nV (by omega)];rfl
 rw[Ae n0]
 simp only[Ah]
 have e:=A2r (fun l i=>uQ R L x l 0 i) x ([]:List UInt8) (cnt .str) (fun l=>by
  have hq:uQ R L x l 0 (x.length:Nat)=_:=round (by kernel_rfl) (AU6 R L x l 0 (x.length:Nat))
  show uQ R L x l 0 (x.length:Nat)=_
  rw[hq,jG (Aj _)];rfl) (fun l i hlt h0 h1=>by
  have hq:uQ R L x l 0 i=_:=round (by kernel_rfl) (AU6 R L x l 0 i)
  have hm:=Al6 (t:=.str) hx _ (xK (d:=([]:List UInt8)) hlt)
  show uQ R L x l 0 i=_
  rw[hq,lZ hlt,nn,tn,zO hlt,zB (i:=i) (by omega)]
  simp only[Af]
  have hm:(x.getD i []).length≤maxLen:=hm
  unfold maxLen at hm
  show _=if ((x.getD i []).length:Int)≤l then uQ R L x (l - ((x.getD i []).length:Int)) 0 ((i+1:Nat):Int) else some (-1,())
  rw[zI (n:=l - ((x.getD i []).length:Int)) (by omega) (by omega)]
  by_cases n:((x.getD i []).length:Int)≤l
  ·rw[A1 n,Ae (by omega)];rfl
  ·rw[A3 n,Ad (by omega)];rfl) _ 0 (l - (x.length:Int)) rfl (An _) (by omega) (by omega)
 rw[hc,← A1k (by omega)]
 exact e
abbrev AP2:Ty:=(.pair (.int .i64) (.pair .str .unit))
abbrev A5F:Type:=(Int × (List UInt8 × Unit))
theorem B3h (x:A5F) (l:Int) (h0:0≤l) (h1:l≤1048576) (hx:AZ4 AP2 x):A0L R x l=some (szF (cnt AP2 x) l,()):=by
 have hq:A0L R x l=_:=call (Bl0 R L x l)
 have hc:cnt AP2 x=(0+(x.2.1.length+(0))):=rfl
 rw[hq]
 have k1:x.2.1.length≤maxLen:=hx.2.1
 unfold maxLen at k1
 rw[zI (n:=(l - (x.2.1.length:Int))) (by omega) (by omega)]
 by_cases n1:l - (x.2.1.length:Int) < 0
 ·rw[Ad n1,hc,nV (by omega)];rfl
 rw[Ae n1]
 simp only[Ah]
 rw[hc,dZ (by omega)]
 exact AE (fun z=>some (z,())) (by omega)
theorem B2G (x:List (A5F)) (l:Int) (h0:0≤l) (h1:l≤1048576) (hx:AZ4 (.sl AP2) x):Am2 R x l=some (szF (cnt (.sl AP2) x) l,()):=by
 have hq:Am2 R x l=_:=call (Bf8 R L x l)
 have hm:x.length≤maxLen:=hx.1
 unfold maxLen at hm
 have hc:cnt (.sl AP2) x=x.length+(x.map (cnt AP2)).sum:=rfl
 rw[hq,zI (n:=l - (x.length:Int)) (by omega) (by omega)]
 by_cases n0:l - (x.length:Int) < 0
 ·rw[Ad n0,nV (by omega)];rfl
 rw[Ae n0]
 simp only[Ah]
 have e:=A2r (fun l i=>mK R L x l 0 i) x ((0:Int),(([]:List UInt8),())) (cnt AP2) (fun l=>by
  have hq:mK R L x l 0 (x.length:Nat)=_:=round (by kernel_rfl) (A1L R L x l 0 (x.length:Nat))
  show mK R L x l 0 (x.length:Nat)=_
  rw[hq,jG (Aj _)];rfl) (fun l i hlt h0 h1=>by
  have hq:mK R L x l 0 i=_:=round (by kernel_rfl) (A1L R L x l 0 i)
  have hm:=Al6 (t:=AP2) hx _ (xK (d:=((0:Int),(([]:List UInt8),()))) hlt)
  show mK R L x l 0 i=_
  rw[hq,lZ hlt,nn,tn,zO hlt,zB (i:=i) (by omega)]
  simp only[Af]
  rw[B3h _ l h0 h1 hm]
  simp only[Aa]
  by_cases n:((cnt AP2 (x.getD i ((0:Int),(([]:List UInt8),()))):Nat):Int)≤l
  ·rw[A1 n,dZ n,Ae (by omega)];rfl
  ·rw[A3 n,nV (by omega)];rfl) _ 0 (l - (x.length:Int)) rfl (An _) (by omega) (by omega)
 rw[hc,← A1k (by omega)]
 exact e
abbrev vG:Ty:=(.pair (.sl .str) (.pair (.sl AP2) .unit))
abbrev mN:Type:=(List (List UInt8) × (List (A5F) × Unit))
theorem A5E (x:mN) (l:Int) (h0:0≤l) (h1:l≤1048576) (hx:AZ4 vG x):dU R x l=some (szF (cnt vG x) l,()):=by
 have hq:dU R x l=_:=call (A6P R L x l)
 have hc:cnt vG x=(cnt (.sl .str) x.1+(cnt (.sl AP2) x.2.1+(0))):=rfl
 rw[hq]
 rw[BM6 x.1 (l) (by omega) (by omega) hx.1]
 simp only[Aa]
 by_cases n1:l < (cnt (.sl .str) x.1:Int)
 ·rw[nV n1,hc,nV (by omega)];rfl
 rw[dZ (by omega),show decide (l - (cnt (.sl .str) x.1:Int) < 0)=false from Ae (by omega)]
 simp only[Ah]
 rw[B2G x.2.1 (l - (cnt (.sl .str) x.1:Int)) (by omega) (by omega) hx.2.1]
 simp only[Aa]
 by_cases n2:l - (cnt (.sl .str) x.1:Int) < (cnt (.sl AP2) x.2.1:Int)
 ·rw[nV n2,hc,nV (by omega)];rfl
 rw[dZ (by omega),show decide (l - (cnt (.sl .str) x.1:Int) - (cnt (.sl AP2) x.2.1:Int) < 0)=false from Ae (by omega)]
 simp only[Ah]
 rw[hc,dZ (by omega)]
 exact AE (fun z=>some (z,())) (by omega)
abbrev qB:Ty:=(.pair .str (.pair sM (.pair vG (.pair .bool (.pair .bool .unit)))))
abbrev uO:Type:=(List UInt8 × (eJ × (mN × (Bool × (Bool × Unit)))))
theorem Bs0 (x:uO) (l:Int) (h0:0≤l) (h1:l≤1048576) (hx:AZ4 qB x):AJ9 R x l=some (szF (cnt qB x) l,()):=by
 have hq:AJ9 R x l=_:=call (A7O R L x l)
 have hc:cnt qB x=(x.1.length+(cnt sM x.2.1+(cnt vG x.2.2.1+(0+(0+(0)))))):=rfl
 rw[hq]
 have k1:x.1.length≤maxLen:=hx.1
 unfold maxLen at k1
 rw[zI (n:=(l - (x.1.length:Int))) (by omega) (by omega)]
 by_cases n1:l - (x.1.length:Int) < 0
 ·rw[Ad n1,hc,nV (by omega)];rfl
 rw[Ae n1]
 simp only[Ah]
 rw[A8T x.2.1 (l - (x.1.length:Int)) (by omega) (by omega) hx.2.1]
 simp only[Aa]
 by_cases n2:l - (x.1.length:Int) < (cnt sM x.2.1:Int)
 ·rw[nV n2,hc,nV (by omega)];rfl
 rw[dZ (by omega),show decide (l - (x.1.length:Int) - (cnt sM x.2.1:Int) < 0)=false from Ae (by omega)]
 simp only[Ah]
 rw[A5E x.2.2.1 (l - (x.1.length:Int) - (cnt sM x.2.1:Int)) (by omega) (by omega) hx.2.2.1]
 simp only[Aa]
 by_cases n3:l - (x.1.length:Int) - (cnt sM x.2.1:Int) < (cnt vG x.2.2.1:Int)
 ·rw[nV n3,hc,nV (by omega)];rfl
 rw[dZ (by omega),show decide (l - (x.1.length:Int) - (cnt sM x.2.1:Int) - (cnt vG x.2.2.1:Int) < 0)=false from Ae (by omega)]
 simp only[Ah]
 rw[hc,dZ (by omega)]
 exact AE (fun z=>some (z,())) (by omega)
theorem B2N (x:List ((Int × (Int × (Int × Unit))))) (l:Int) (h0:0≤l) (h1:l≤1048576) (hx:AZ4 (.sl (.pair (.int .i64) (.pair (.int .i64) (.pair (.int .i64) .unit)))) x):Ai2 R x l=some (szF (cnt (.sl (.pair (.int .i64) (.pair (.int .i64) (.pair (.int .i64) .unit)))) x) l,()):=by
 have hq:Ai2 R x l=_:=call (Bg0 R L x l)
 have hm:x.length≤maxLen:=hx.1
 unfold maxLen at hm
 have hc:cnt (.sl (.pair (.int .i64) (.pair (.int .i64) (.pair (.int .i64) .unit)))) x=x.length+(x.map (cnt (.pair (.int .i64) (.pair (.int .i64) (.pair (.int .i64) .unit))))).sum:=rfl
 rw[hq,zI (n:=l - (x.length:Int)) (by omega) (by omega)]
 by_cases n0:l - (x.length:Int) < 0
 ·rw[Ad n0,nV (by omega)];rfl
 rw[Ae n0]
 simp only[Ah]
 have hz:(x.map (cnt (.pair (.int .i64) (.pair (.int .i64) (.pair (.int .i64) .unit))))).sum=0:=A0S x (fun _=>rfl)
 rw[dZ (by omega)]
 exact AE (fun z=>some (z,())) (by omega)
abbrev vL:Ty:=(.pair (.sl (.pair (.int .i64) (.pair (.int .i64) (.pair (.int .i64) .unit)))) .unit)
abbrev pI:Type:=(List ((Int × (Int × (Int × Unit)))) × Unit)
theorem B2I (x:pI) (l:Int) (h0:0≤l) (h1:l≤1048576) (hx:AZ4 vL x):Al4 R x l=some (szF (cnt vL x) l,()):=by
 have hq:Al4 R x l=_:=call (BX9 R L x l)
 have hc:cnt vL x=(cnt (.sl (.pair (.int .i64) (.pair (.int .i64) (.pair (.int .i64) .unit)))) x.1+(0)):=rfl
 rw[hq]
 rw[B2N x.1 (l) (by omega) (by omega) hx.1]
 simp only[Aa]
 by_cases n1:l < (cnt (.sl (.pair (.int .i64) (.pair (.int .i64) (.pair (.int .i64) .unit)))) x.1:Int)
 ·rw[nV n1,hc,nV (by omega)];rfl
 rw[dZ (by omega),show decide (l - (cnt (.sl (.pair (.int .i64) (.pair (.int .i64) (.pair (.int .i64) .unit)))) x.1:Int) < 0)=false from Ae (by omega)]
 simp only[Ah]
 rw[hc,dZ (by omega)]
 exact AE (fun z=>some (z,())) (by omega)
theorem B0M (x:List (pI)) (l:Int) (h0:0≤l) (h1:l≤1048576) (hx:AZ4 (.sl vL) x):AW8 R x l=some (szF (cnt (.sl vL) x) l,()):=by
 have hq:AW8 R x l=_:=call (BD4 R L x l)
 have hm:x.length≤maxLen:=hx.1
 unfold maxLen at hm
 have hc:cnt (.sl vL) x=x.length+(x.map (cnt vL)).sum:=rfl
 rw[hq,zI (n:=l - (x.length:Int)) (by omega) (by omega)]
 by_cases n0:l - (x.length:Int) < 0
 ·rw[Ad n0,nV (by omega)];rfl
 rw[Ae n0]
 simp only[Ah]
 have e:=A2r (fun l i=>oM R L x l 0 i) x (([]:List ((Int × (Int × (Int × Unit))))),()) (cnt vL) (fun l=>by
  have hq:oM R L x l 0 (x.length:Nat)=_:=round (by kernel_rfl) (Av6 R L x l 0 (x.length:Nat))
  show oM R L x l 0 (x.length:Nat)=_
  rw[hq,jG (Aj _)];rfl) (fun l i hlt h0 h1=>by
  have hq:oM R L x l 0 i=_:=round (by kernel_rfl) (Av6 R L x l 0 i)
  have hm:=Al6 (t:=vL) hx _ (xK (d:=(([]:List ((Int × (Int × (Int × Unit))))),())) hlt)
  show oM R L x l 0 i=_
  rw[hq,lZ hlt,nn,tn,zO hlt,zB (i:=i) (by omega)]
  simp only[Af]
  rw[B2I _ l h0 h1 hm]
  simp only[Aa]
  by_cases n:((cnt vL (x.getD i (([]:List ((Int × (Int × (Int × Unit))))),())):Nat):Int)≤l
  ·rw[A1 n,dZ n,Ae (by omega)];rfl
  ·rw[A3 n,nV (by omega)];rfl) _ 0 (l - (x.length:Int)) rfl (An _) (by omega) (by omega)
 rw[hc,← A1k (by omega)]
 exact e
theorem A8z (x:eJ) (hx:cnt sM x≤1048576):dL R x=some (x,()):=by
 have hq:dL R x=_:=call (A11 R L x)
 have hc:cnt sM x=(0+(0+(0+(0+(x.2.2.2.2.1.length+(x.2.2.2.2.2.1.length+(x.2.2.2.2.2.2.1.length+(0)))))))):=rfl
 refine hq.trans ?_
 rfl
theorem BL1 (x:List (List UInt8)) (hx:cnt (.sl .str) x≤1048576):bF R x=some (x,()):=by
 have hq:bF R x=_:=call (A34 R L x)
 have hc:cnt (.sl .str) x=x.length+(x.map (cnt .str)).sum:=rfl
 rw[hq,AE1,tn,wF (by omega)]
 refine An6 (fun w i=>sX R L x [] w i) x ([]:List UInt8) (fun w hw=>?_) (fun w i hlt hw=>?_) _ 0 _ rfl (An _) (by simp) (fun j hj=>by omega)
 ·have hq:sX R L x [] w (x.length:Nat)=_:=round (by kernel_rfl) (AR9 R L x [] w (x.length:Nat))
  show sX R L x [] w (x.length:Nat)=_
  rw[hq,jG (Aj _)];rfl
 ·have hq:sX R L x [] w i=_:=round (by kernel_rfl) (AR9 R L x [] w i)
  show sX R L x [] w i=_
  rw[hq,lZ hlt,nn,tn,zO hlt,zO (n:=w.length) (by omega),zB (i:=i) (by omega)]
  rfl
theorem B3d (x:A5F) (hx:cnt AP2 x≤1048576):A0I R x=some (x,()):=by
 have hq:A0I R x=_:=call (Br6 R L x)
 have hc:cnt AP2 x=(0+(x.2.1.length+(0))):=rfl
 refine hq.trans ?_
 rfl
theorem B2J (x:List (A5F)) (hx:cnt (.sl AP2) x≤1048576):Ah0 R x=some (x,()):=by
 have hq:Ah0 R x=_:=call (Be7 R L x)
 have hc:cnt (.sl AP2) x=x.length+(x.map (cnt AP2)).sum:=rfl
 rw[hq,AE1,tn,wF (by omega)]
 refine An6 (fun w i=>mI R L x [] w i) x ((0:Int),(([]:List UInt8),())) (fun w hw=>?_) (fun w i hlt hw=>?_) _ 0 _ rfl (An _) (by simp) (fun j hj=>by omega)
 ·have hq:mI R L x [] w (x.length:Nat)=_:=round (by kernel_rfl) (A1l R L x [] w (x.length:Nat))
  show mI R L x [] w (x.length:Nat)=_
  rw[hq,jG (Aj _)];rfl
 ·have hq:mI R L x [] w i=_:=round (by kernel_rfl) (A1l R L x [] w i)
  show mI R L x [] w i=_
  rw[hq,lZ hlt,nn,tn,zO hlt,zO (n:=w.length) (by omega),zB (i:=i) (by omega)]
  have hm:cnt AP2 (x.getD i ((0:Int),(([]:List UInt8),())))≤cnt (.sl AP2) x:=cN (t:=AP2) (x:=x) (d:=((0:Int),(([]:List UInt8),()))) hlt
  rw[B3d _ (by omega)]
  rfl
theorem A40 (x:mN) (hx:cnt vG x≤1048576):dY R x=some (x,()):=by
 have hq:dY R x=_:=call (A6w R L x)
 have hc:cnt vG x=(cnt (.sl .str) x.1+(cnt (.sl AP2) x.2.1+(0))):=rfl
 refine hq.trans ?_
 rw[BL1 x.1 (by omega)]
 simp only[Aa]
 rw[B2J x.2.1 (by omega)]
 rfl
theorem Br9 (x:uO) (hx:cnt qB x≤1048576):AK5 R x=some (x,()):=by
 have hq:AK5 R x=_:=call (A8r R L x)
 have hc:cnt qB x=(x.1.length+(cnt sM x.2.1+(cnt vG x.2.2.1+(0+(0+(0)))))):=rfl
 refine hq.trans ?_
 rw[A8z x.2.1 (by omega)]
 simp only[Aa]
 rw[A40 x.2.2.1 (by omega)]
 rfl
abbrev Ad7:Ty:=(.pair (.int .i64) (.pair (.int .i64) (.pair (.int .i64) .unit)))
abbrev Ag8:Type:=(Int × (Int × (Int × Unit)))
theorem B34 (x:Ag8) (hx:cnt Ad7 x≤1048576):A0M R x=some (x,()):=by
 have hq:A0M R x=_:=call (Bl4 R L x)
 have hc:cnt Ad7 x=(0+(0+(0+(0)))):=rfl
 refine hq.trans ?_
 rfl
theorem B24 (x:List (Ag8)) (hx:cnt (.sl Ad7) x≤1048576):Al9 R x=some (x,()):=by
 have hq:Al9 R x=_:=call (BW4 R L x)
 have hc:cnt (.sl Ad7) x=x.length+(x.map (cnt Ad7)).sum:=rfl
 rw[hq,AE1,tn,wF (by omega)]
 refine An6 (fun w i=>mD R L x [] w i) x ((0:Int),((0:Int),((0:Int),()))) (fun w hw=>?_) (fun w i hlt hw=>?_) _ 0 _ rfl (An _) (by simp) (fun j hj=>by omega)
 ·have hq:mD R L x [] w (x.length:Nat)=_:=round (by kernel_rfl) (A1P R L x [] w (x.length:Nat))
  show mD R L x [] w (x.length:Nat)=_
  rw[hq,jG (Aj _)];rfl
 ·have hq:mD R L x [] w i=_:=round (by kernel_rfl) (A1P R L x [] w i)
  show mD R L x [] w i=_
  rw[hq,lZ hlt,nn,tn,zO hlt,zO (n:=w.length) (by omega),zB (i:=i) (by omega)]
  have hm:cnt Ad7 (x.getD i ((0:Int),((0:Int),((0:Int),()))))≤cnt (.sl Ad7) x:=cN (t:=Ad7) (x:=x) (d:=((0:Int),((0:Int),((0:Int),())))) hlt
  rw[B34 _ (by omega)]
  rfl
theorem B2H (x:pI) (hx:cnt vL x≤1048576):Ah3 R x=some (x,()):=by
 have hq:Ah3 R x=_:=call (Bb9 R L x)
 have hc:cnt vL x=(cnt (.sl Ad7) x.1+(0)):=rfl
 refine hq.trans ?_
 rw[B24 x.1 (by omega)]
 rfl
theorem B0J (x:List (pI)) (hx:cnt (.sl vL) x≤1048576):AY7 R x=some (x,()):=by
 have hq:AY7 R x=_:=call (BJ4 R L x)
 have hc:cnt (.sl vL) x=x.length+(x.map (cnt vL)).sum:=rfl
 rw[hq,AE1,tn,wF (by omega)]
 refine An6 (fun w i=>oW R L x [] w i) x (([]:List (Ag8)),()) (fun w hw=>?_) (fun w i hlt hw=>?_) _ 0 _ rfl (An _) (by simp) (fun j hj=>by omega)
 ·have hq:oW R L x [] w (x.length:Nat)=_:=round (by kernel_rfl) (Ax6 R L x [] w (x.length:Nat))
  show oW R L x [] w (x.length:Nat)=_
  rw[hq,jG (Aj _)];rfl
 ·have hq:oW R L x [] w i=_:=round (by kernel_rfl) (Ax6 R L x [] w i)
  show oW R L x [] w i=_
  rw[hq,lZ hlt,nn,tn,zO hlt,zO (n:=w.length) (by omega),zB (i:=i) (by omega)]
  have hm:cnt vL (x.getD i (([]:List (Ag8)),()))≤cnt (.sl vL) x:=cN (t:=vL) (x:=x) (d:=(([]:List (Ag8)),())) hlt
  rw[B2H _ (by omega)]
  rfl
theorem B02 (x:List (Int)) (hx:cnt (.sl (.int .i64)) x≤1048576):AW6 R x=some (x,()):=by
 have hq:AW6 R x=_:=call (BI1 R L x)
 have hc:cnt (.sl (.int .i64)) x=x.length+(x.map (cnt (.int .i64))).sum:=rfl
 rw[hq,AE1,tn,wF (by omega)]
 refine An6 (fun w i=>oY R L x [] w i) x (0:Int) (fun w hw=>?_) (fun w i hlt hw=>?_) _ 0 _ rfl (An _) (by simp) (fun j hj=>by omega)
 ·have hq:oY R L x [] w (x.length:Nat)=_:=round (by kernel_rfl) (Ay4 R L x [] w (x.length:Nat))
  show oY R L x [] w (x.length:Nat)=_
  rw[hq,jG (Aj _)];rfl
 ·have hq:oY R L x [] w i=_:=round (by kernel_rfl) (Ay4 R L x [] w i)
  show oY R L x [] w i=_
  rw[hq,lZ hlt,nn,tn,zO hlt,zO (n:=w.length) (by omega),zB (i:=i) (by omega)]
  rfl
theorem A8s (x:eJ) (hx:cnt sM x≤1048576):dM R x x=some (true,()):=by
 have hq:dM R x x=_:=call (A17 R L x x)
 have hc:cnt sM x=(0+(0+(0+(0+(x.2.2.2.2.1.length+(x.2.2.2.2.2.1.length+(x.2.2.2.2.2.2.1.length+(0)))))))):=rfl
 rw[hq]
 simp only[yU,iI,eqB,A0,Ap,Ah,Aa]
theorem BH6 (x:List (List UInt8)) (hx:cnt (.sl .str) x≤1048576):bA R x x=some (true,()):=by
 have hq:bA R x x=_:=call (A4X R L x x)
 have hc:cnt (.sl .str) x=x.length+(x.map (cnt .str)).sum:=rfl
 rw[hq]
 simp only[yU,A0,Ap,Ah]
 refine Aj7 (fun i=>sU R L x x false i) x ?_ (fun i hlt=>?_) _ 0 rfl (An _)
 ·have hq:sU R L x x false (x.length:Nat)=_:=round (by kernel_rfl) (AR1 R L x x false (x.length:Nat))
  show sU R L x x false (x.length:Nat)=_
  rw[hq,jG (Aj _)];rfl
 ·have hq:sU R L x x false i=_:=round (by kernel_rfl) (AR1 R L x x false i)
  show sU R L x x false i=_
  rw[hq,lZ hlt,nn,tn,zO hlt,zB (i:=i) (by omega)]
  simp only[Af,yU,iI,A0,Ap,Ah]
theorem B3w (x:A5F) (hx:cnt AP2 x≤1048576):A0F R x x=some (true,()):=by
 have hq:A0F R x x=_:=call (Bt1 R L x x)
 have hc:cnt AP2 x=(0+(x.2.1.length+(0))):=rfl
 rw[hq]
 simp only[yU,iI,eqB,A0,Ap,Ah,Aa]
theorem B18 (x:List (A5F)) (hx:cnt (.sl AP2) x≤1048576):Am1 R x x=some (true,()):=by
 have hq:Am1 R x x=_:=call (Bh4 R L x x)
 have hc:cnt (.sl AP2) x=x.length+(x.map (cnt AP2)).sum:=rfl
 rw[hq]
 simp only[yU,A0,Ap,Ah]
 refine Aj7 (fun i=>mF R L x x false i) x ?_ (fun i hlt=>?_) _ 0 rfl (An _)
 ·have hq:mF R L x x false (x.length:Nat)=_:=round (by kernel_rfl) (A1r R L x x false (x.length:Nat))
  show mF R L x x false (x.length:Nat)=_
  rw[hq,jG (Aj _)];rfl
 ·have hq:mF R L x x false i=_:=round (by kernel_rfl) (A1r R L x x false i)
  show mF R L x x false i=_
  rw[hq,lZ hlt,nn,tn,zO hlt,zB (i:=i) (by omega)]
  have hm:cnt AP2 (x.getD i ((0:Int),(([]:List UInt8),())))≤cnt (.sl AP2) x:=cN (t:=AP2) (x:=x) (d:=((0:Int),(([]:List UInt8),()))) hlt
  simp only[Af]
  rw[B3w _ (by omega)]
  simp only[Aa,Ap,Ah]
theorem A6J (x:mN) (hx:cnt vG x≤1048576):dR R x x=some (true,()):=by
 have hq:dR R x x=_:=call (A5m R L x x)
 have hc:cnt vG x=(cnt (.sl .str) x.1+(cnt (.sl AP2) x.2.1+(0))):=rfl
 have e1:=BH6 x.1 (by omega)
 have e2:=B18 x.2.1 (by omega)
 rw[hq]
 simp only[yU,iI,eqB,A0,Ap,Ah,Aa,e1,e2]
theorem Bm8 (x:uO) (hx:cnt qB x≤1048576):AI2 R x x=some (true,()):=by
 have hq:AI2 R x x=_:=call (A8H R L x x)
 have hc:cnt qB x=(x.1.length+(cnt sM x.2.1+(cnt vG x.2.2.1+(0+(0+(0)))))):=rfl
 have e1:=A8s x.2.1 (by omega)
 have e2:=A6J x.2.2.1 (by omega)
 rw[hq]
 simp only[yU,iI,eqB,A0,Ap,Ah,Aa,e1,e2]
theorem B3u (x:Ag8) (hx:cnt Ad7 x≤1048576):A0U R x x=some (true,()):=by
 have hq:A0U R x x=_:=call (Br4 R L x x)
 have hc:cnt Ad7 x=(0+(0+(0+(0)))):=rfl
 rw[hq]
 simp only[yU,iI,eqB,A0,Ap,Ah,Aa]
theorem B2T (x:List (Ag8)) (hx:cnt (.sl Ad7) x≤1048576):An9 R x x=some (true,()):=by
 have hq:An9 R x x=_:=call (BV3 R L x x)
 have hc:cnt (.sl Ad7) x=x.length+(x.map (cnt Ad7)).sum:=rfl
 rw[hq]
 simp only[yU,A0,Ap,Ah]
 refine Aj7 (fun i=>mM R L x x false i) x ?_ (fun i hlt=>?_) _ 0 rfl (An _)
 ·have hq:mM R L x x false (x.length:Nat)=_:=round (by kernel_rfl) (A1q R L x x false (x.length:Nat))
  show mM R L x x false (x.length:Nat)=_
  rw[hq,jG (Aj _)];rfl
 ·have hq:mM R L x x false i=_:=round (by kernel_rfl) (A1q R L x x false i)
  show mM R L x x false i=_
  rw[hq,lZ hlt,nn,tn,zO hlt,zB (i:=i) (by omega)]
  have hm:cnt Ad7 (x.getD i ((0:Int),((0:Int),((0:Int),()))))≤cnt (.sl Ad7) x:=cN (t:=Ad7) (x:=x) (d:=((0:Int),((0:Int),((0:Int),())))) hlt
  simp only[Af]
  rw[B3u _ (by omega)]
  simp only[Aa,Ap,Ah]
theorem B1u (x:pI) (hx:cnt vL x≤1048576):Ak5 R x x=some (true,()):=by
 have hq:Ak5 R x x=_:=call (Be3 R L x x)
 have hc:cnt vL x=(cnt (.sl Ad7) x.1+(0)):=rfl
 have e1:=B2T x.1 (by omega)
 rw[hq]
 simp only[yU,iI,eqB,A0,Ap,Ah,Aa,e1]
theorem B07 (x:List (pI)) (hx:cnt (.sl vL) x≤1048576):AY3 R x x=some (true,()):=by
 have hq:AY3 R x x=_:=call (BN1 R L x x)
 have hc:cnt (.sl vL) x=x.length+(x.map (cnt vL)).sum:=rfl
 rw[hq]
 simp only[yU,A0,Ap,Ah]
 refine Aj7 (fun i=>oP R L x x false i) x ?_ (fun i hlt=>?_) _ 0 rfl (An _)
 ·have hq:oP R L x x false (x.length:Nat)=_:=round (by kernel_rfl) (Ay1 R L x x false (x.length:Nat))
  show oP R L x x false (x.length:Nat)=_
  rw[hq,jG (Aj _)];rfl
 ·have hq:oP R L x x false i=_:=round (by kernel_rfl) (Ay1 R L x x false i)
  show oP R L x x false i=_
  rw[hq,lZ hlt,nn,tn,zO hlt,zB (i:=i) (by omega)]
  have hm:cnt vL (x.getD i (([]:List (Ag8)),()))≤cnt (.sl vL) x:=cN (t:=vL) (x:=x) (d:=(([]:List (Ag8)),())) hlt
  simp only[Af]
  rw[B1u _ (by omega)]
  simp only[Aa,Ap,Ah]
theorem B03 (x:List (Int)) (hx:cnt (.sl (.int .i64)) x≤1048576):AX5 R x x=some (true,()):=by
 have hq:AX5 R x x=_:=call (BK9 R L x x)
 have hc:cnt (.sl (.int .i64)) x=x.length+(x.map (cnt (.int .i64))).sum:=rfl
 rw[hq]
 simp only[yU,A0,Ap,Ah]
 refine Aj7 (fun i=>oL R L x x false i) x ?_ (fun i hlt=>?_) _ 0 rfl (An _)
 ·have hq:oL R L x x false (x.length:Nat)=_:=round (by kernel_rfl) (Av2 R L x x false (x.length:Nat))
  show oL R L x x false (x.length:Nat)=_
  rw[hq,jG (Aj _)];rfl
 ·have hq:oL R L x x false i=_:=round (by kernel_rfl) (Av2 R L x x false i)
  show oL R L x x false i=_
  rw[hq,lZ hlt,nn,tn,zO hlt,zB (i:=i) (by omega)]
  simp only[Af,yU,iI,A0,Ap,Ah]
abbrev xZ:Ty:=(.pair (.int .i64) (.pair (.int .i64) .unit))
abbrev yE:Type:=(Int × (Int × Unit))
theorem Bp9 (x:yE) (hx:cnt xZ x≤1048576):AM8 R x x=some (true,()):=by
 have hq:AM8 R x x=_:=call (A75 R L x x)
 have hc:cnt xZ x=(0+(0+(0))):=rfl
 rw[hq]
 simp only[yU,iI,eqB,A0,Ap,Ah,Aa]
theorem BQ8 (x:List (yE)) (hx:cnt (.sl xZ) x≤1048576):AC9 R x x=some (true,()):=by
 have hq:AC9 R x x=_:=call (A5l R L x x)
 have hc:cnt (.sl xZ) x=x.length+(x.map (cnt xZ)).sum:=rfl
 rw[hq]
 simp only[yU,A0,Ap,Ah]
 refine Aj7 (fun i=>qG R L x x false i) x ?_ (fun i hlt=>?_) _ 0 rfl (An _)
 ·have hq:qG R L x x false (x.length:Nat)=_:=round (by kernel_rfl) (Ac9 R L x x false (x.length:Nat))
  show qG R L x x false (x.length:Nat)=_
  rw[hq,jG (Aj _)];rfl
 ·have hq:qG R L x x false i=_:=round (by kernel_rfl) (Ac9 R L x x false i)
  show qG R L x x false i=_
  rw[hq,lZ hlt,nn,tn,zO hlt,zB (i:=i) (by omega)]
  have hm:cnt xZ (x.getD i ((0:Int),((0:Int),())))≤cnt (.sl xZ) x:=cN (t:=xZ) (x:=x) (d:=((0:Int),((0:Int),()))) hlt
  simp only[Af]
  rw[Bp9 _ (by omega)]
  simp only[Aa,Ap,Ah]
theorem Bs5 (x:List (List (pI))) (hx:cnt (.sl (.sl vL)) x≤1048576):AN2 R x x=some (true,()):=by
 have hq:AN2 R x x=_:=call (A7n R L x x)
 have hc:cnt (.sl (.sl vL)) x=x.length+(x.map (cnt (.sl vL))).sum:=rfl
 rw[hq]
 simp only[yU,A0,Ap,Ah]
 refine Aj7 (fun i=>qX R L x x false i) x ?_ (fun i hlt=>?_) _ 0 rfl (An _)
 ·have hq:qX R L x x false (x.length:Nat)=_:=round (by kernel_rfl) (Am0 R L x x false (x.length:Nat))
  show qX R L x x false (x.length:Nat)=_
  rw[hq,jG (Aj _)];rfl
 ·have hq:qX R L x x false i=_:=round (by kernel_rfl) (Am0 R L x x false i)
  show qX R L x x false i=_
  rw[hq,lZ hlt,nn,tn,zO hlt,zB (i:=i) (by omega)]
  have hm:cnt (.sl vL) (x.getD i ([]:List (pI)))≤cnt (.sl (.sl vL)) x:=cN (t:=(.sl vL)) (x:=x) (d:=([]:List (pI))) hlt
  simp only[Af]
  rw[B07 _ (by omega)]
  simp only[Aa,Ap,Ah]
abbrev yN:Ty:=(.pair (.int .i64) (.pair (.sl (.int .i64)) .unit))
abbrev xI:Type:=(Int × (List (Int) × Unit))
theorem Bh7 (x:xI) (hx:cnt yN x≤1048576):AD8 R x x=some (true,()):=by
 have hq:AD8 R x x=_:=call (A6d R L x x)
 have hc:cnt yN x=(0+(cnt (.sl (.int .i64)) x.2.1+(0))):=rfl
 have e1:=B03 x.2.1 (by omega)
 rw[hq]
 simp only[yU,iI,eqB,A0,Ap,Ah,Aa,e1]
theorem BJ5 (x:List (xI)) (hx:cnt (.sl yN) x≤1048576):bJ R x x=some (true,()):=by
 have hq:bJ R x x=_:=call (A3s R L x x)
 have hc:cnt (.sl yN) x=x.length+(x.map (cnt yN)).sum:=rfl
 rw[hq]
 simp only[yU,A0,Ap,Ah]
 refine Aj7 (fun i=>sO R L x x false i) x ?_ (fun i hlt=>?_) _ 0 rfl (An _)
 ·have hq:sO R L x x false (x.length:Nat)=_:=round (by kernel_rfl) (AS9 R L x x false (x.length:Nat))
  show sO R L x x false (x.length:Nat)=_
  rw[hq,jG (Aj _)];rfl
 ·have hq:sO R L x x false i=_:=round (by kernel_rfl) (AS9 R L x x false i)
  show sO R L x x false i=_
  rw[hq,lZ hlt,nn,tn,zO hlt,zB (i:=i) (by omega)]
  have hm:cnt yN (x.getD i ((0:Int),(([]:List (Int)),())))≤cnt (.sl yN) x:=cN (t:=yN) (x:=x) (d:=((0:Int),(([]:List (Int)),()))) hlt
  simp only[Af]
  rw[Bh7 _ (by omega)]
  simp only[Aa,Ap,Ah]
abbrev aU:Ty:=(.pair qB (.pair vG (.pair (.sl xZ) (.pair (.sl (.sl vL)) (.pair (.sl yN) (.pair .bool .unit))))))
abbrev fC:Type:=(uO × (mN × (List (yE) × (List (List (pI)) × (List (xI) × (Bool × Unit))))))
theorem Bt3 (x:fC) (hx:cnt aU x≤1048576):AK6 R x x=some (true,()):=by
 have hq:AK6 R x x=_:=call (A77 R L x x)
 have hc:cnt aU x=(cnt qB x.1+(cnt vG x.2.1+(cnt (.sl xZ) x.2.2.1+(cnt (.sl (.sl vL)) x.2.2.2.1+(cnt (.sl yN) x.2.2.2.2.1+(0+(0))))))):=rfl
 have e1:=Bm8 x.1 (by omega)
 have e2:=A6J x.2.1 (by omega)
 have e3:=BQ8 x.2.2.1 (by omega)
 have e4:=Bs5 x.2.2.2.1 (by omega)
 have e5:=BJ5 x.2.2.2.2.1 (by omega)
 rw[hq]
 simp only[yU,iI,eqB,A0,Ap,Ah,Aa,e1,e2,e3,e4,e5]
theorem BV8 (x:List (yE)) (l:Int) (h0:0≤l) (h1:l≤1048576) (hx:AZ4 (.sl xZ) x):AD9 R x l=some (szF (cnt (.sl xZ) x) l,()):=by
 have hq:AD9 R x l=_:=call (A5Z R L x l)
 have hm:x.length≤maxLen:=hx.1
 unfold maxLen at hm
 have hc:cnt (.sl xZ) x=x.length+(x.map (cnt xZ)).sum:=rfl
 rw[hq,zI (n:=l - (x.length:Int)) (by omega) (by omega)]
 by_cases n0:l - (x.length:Int) < 0
 ·rw[Ad n0,nV (by omega)];rfl
 rw[Ae n0]
 simp only[Ah]
 have hz:(x.map (cnt xZ)).sum=0:=A0S x (fun _=>rfl)
 rw[dZ (by omega)]
 exact AE (fun z=>some (z,())) (by omega)
theorem Bj2 (x:List (List (pI))) (l:Int) (h0:0≤l) (h1:l≤1048576) (hx:AZ4 (.sl (.sl vL)) x):AK8 R x l=some (szF (cnt (.sl (.sl vL)) x) l,()):=by
 have hq:AK8 R x l=_:=call (A7Z R L x l)
 have hm:x.length≤maxLen:=hx.1
 unfold maxLen at hm
 have hc:cnt (.sl (.sl vL)) x=x.length+(x.map (cnt (.sl vL))).sum:=rfl
 rw[hq,zI (n:=l - (x.length:Int)) (by omega) (by omega)]
 by_cases n0:l - (x.length:Int) < 0
 ·rw[Ad n0,nV (by omega)];rfl
 rw[Ae n0]
 simp only[Ah]
 have e:=A2r (fun l i=>qY R L x l 0 i) x ([]:List (pI)) (cnt (.sl vL)) (fun l=>by
  have hq:qY R L x l 0 (x.length:Nat)=_:=round (by kernel_rfl) (Al3 R L x l 0 (x.length:Nat))
  show qY R L x l 0 (x.length:Nat)=_
  rw[hq,jG (Aj _)];rfl) (fun l i hlt h0 h1=>by
  have hq:qY R L x l 0 i=_:=round (by kernel_rfl) (Al3 R L x l 0 i)
  have hm:=Al6 (t:=(.sl vL)) hx _ (xK (d:=([]:List (pI))) hlt)
  show qY R L x l 0 i=_
  rw[hq,lZ hlt,nn,tn,zO hlt,zB (i:=i) (by omega)]
  simp only[Af]
  rw[B0M _ l h0 h1 hm]
  simp only[Aa]
  by_cases n:((cnt (.sl vL) (x.getD i ([]:List (pI))):Nat):Int)≤l
  ·rw[A1 n,dZ n,Ae (by omega)];rfl
  ·rw[A3 n,nV (by omega)];rfl) _ 0 (l - (x.length:Int)) rfl (An _) (by omega) (by omega)
 rw[hc,← A1k (by omega)]
 exact e
theorem B1A (x:List (Int)) (l:Int) (h0:0≤l) (h1:l≤1048576) (hx:AZ4 (.sl (.int .i64)) x):AX4 R x l=some (szF (cnt (.sl (.int .i64)) x) l,()):=by
 have hq:AX4 R x l=_:=call (BM3 R L x l)
 have hm:x.length≤maxLen:=hx.1
 unfold maxLen at hm
 have hc:cnt (.sl (.int .i64)) x=x.length+(x.map (cnt (.int .i64))).sum:=rfl
 rw[hq,zI (n:=l - (x.length:Int)) (by omega) (by omega)]
 by_cases n0:l - (x.length:Int) < 0
 ·rw[Ad n0,nV (by omega)];rfl
 rw[Ae n0]
 simp only[Ah]
 have hz:(x.map (cnt (.int .i64))).sum=0:=A0S x (fun _=>rfl)
 rw[dZ (by omega)]
 exact AE (fun z=>some (z,())) (by omega)
theorem Bd9 (x:xI) (l:Int) (h0:0≤l) (h1:l≤1048576) (hx:AZ4 yN x):AC1 R x l=some (szF (cnt yN x) l,()):=by
 have hq:AC1 R x l=_:=call (A6y R L x l)
 have hc:cnt yN x=(0+(cnt (.sl (.int .i64)) x.2.1+(0))):=rfl
 rw[hq]
 rw[B1A x.2.1 (l) (by omega) (by omega) hx.2.1]
 simp only[Aa]
 by_cases n1:l < (cnt (.sl (.int .i64)) x.2.1:Int)
 ·rw[nV n1,hc,nV (by omega)];rfl
 rw[dZ (by omega),show decide (l - (cnt (.sl (.int .i64)) x.2.1:Int) < 0)=false from Ae (by omega)]
 simp only[Ah]
 rw[hc,dZ (by omega)]
 exact AE (fun z=>some (z,())) (by omega)
theorem BM8 (x:List (xI)) (l:Int) (h0:0≤l) (h1:l≤1048576) (hx:AZ4 (.sl yN) x):bC R x l=some (szF (cnt (.sl yN) x) l,()):=by
 have hq:bC R x l=_:=call (A4Y R L x l)
 have hm:x.length≤maxLen:=hx.1
 unfold maxLen at hm
 have hc:cnt (.sl yN) x=x.length+(x.map (cnt yN)).sum:=rfl
 rw[hq,zI (n:=l - (x.length:Int)) (by omega) (by omega)]
 by_cases n0:l - (x.length:Int) < 0
 ·rw[Ad n0,nV (by omega)];rfl
 rw[Ae n0]
 simp only[Ah]
 have e:=A2r (fun l i=>sW R L x l 0 i) x ((0:Int),(([]:List (Int)),())) (cnt yN) (fun l=>by
  have hq:sW R L x l 0 (x.length:Nat)=_:=round (by kernel_rfl) (AT6 R L x l 0 (x.length:Nat))
  show sW R L x l 0 (x.length:Nat)=_
  rw[hq,jG (Aj _)];rfl) (fun l i hlt h0 h1=>by
  have hq:sW R L x l 0 i=_:=round (by kernel_rfl) (AT6 R L x l 0 i)
  have hm:=Al6 (t:=yN) hx _ (xK (d:=((0:Int),(([]:List (Int)),()))) hlt)
  show sW R L x l 0 i=_
  rw[hq,lZ hlt,nn,tn,zO hlt,zB (i:=i) (by omega)]
  simp only[Af]
  rw[Bd9 _ l h0 h1 hm]
  simp only[Aa]
  by_cases n:((cnt yN (x.getD i ((0:Int),(([]:List (Int)),()))):Nat):Int)≤l
  ·rw[A1 n,dZ n,Ae (by omega)];rfl
  ·rw[A3 n,nV (by omega)];rfl) _ 0 (l - (x.length:Int)) rfl (An _) (by omega) (by omega)
 rw[hc,← A1k (by omega)]
 exact e
theorem Bl2 (x:fC) (l:Int) (h0:0≤l) (h1:l≤1048576) (hx:AZ4 aU x):AJ8 R x l=some (szF (cnt aU x) l,()):=by
 have hq:AJ8 R x l=_:=call (A8L R L x l)
 have hc:cnt aU x=(cnt qB x.1+(cnt vG x.2.1+(cnt (.sl xZ) x.2.2.1+(cnt (.sl (.sl vL)) x.2.2.2.1+(cnt (.sl yN) x.2.2.2.2.1+(0+(0))))))):=rfl
 rw[hq]
 rw[Bs0 x.1 (l) (by omega) (by omega) hx.1]
 simp only[Aa]
 by_cases n1:l < (cnt qB x.1:Int)
 ·rw[nV n1,hc,nV (by omega)];rfl
 rw[dZ (by omega),show decide (l - (cnt qB x.1:Int) < 0)=false from Ae (by omega)]
 simp only[Ah]
 rw[A5E x.2.1 (l - (cnt qB x.1:Int)) (by omega) (by omega) hx.2.1]
 simp only[Aa]
 by_cases n2:l - (cnt qB x.1:Int) < (cnt vG x.2.1:Int)
 ·rw[nV n2,hc,nV (by omega)];rfl
 rw[dZ (by omega),show decide (l - (cnt qB x.1:Int) - (cnt vG x.2.1:Int) < 0)=false from Ae (by omega)]
 simp only[Ah]
 rw[BV8 x.2.2.1 (l - (cnt qB x.1:Int) - (cnt vG x.2.1:Int)) (by omega) (by omega) hx.2.2.1]
 simp only[Aa]
 by_cases n3:l - (cnt qB x.1:Int) - (cnt vG x.2.1:Int) < (cnt (.sl xZ) x.2.2.1:Int)
 ·rw[nV n3,hc,nV (by omega)];rfl
 rw[dZ (by omega),show decide (l - (cnt qB x.1:Int) - (cnt vG x.2.1:Int) - (cnt (.sl xZ) x.2.2.1:Int) < 0)=false from Ae (by omega)]
 simp only[Ah]
 rw[Bj2 x.2.2.2.1 (l - (cnt qB x.1:Int) - (cnt vG x.2.1:Int) - (cnt (.sl xZ) x.2.2.1:Int)) (by omega) (by omega) hx.2.2.2.1]
 simp only[Aa]
 by_cases n4:l - (cnt qB x.1:Int) - (cnt vG x.2.1:Int) - (cnt (.sl xZ) x.2.2.1:Int) < (cnt (.sl (.sl vL)) x.2.2.2.1:Int)
 ·rw[nV n4,hc,nV (by omega)];rfl
 rw[dZ (by omega),show decide (l - (cnt qB x.1:Int) - (cnt vG x.2.1:Int) - (cnt (.sl xZ) x.2.2.1:Int) - (cnt (.sl (.sl vL)) x.2.2.2.1:Int) < 0)=false from Ae (by omega)]
 simp only[Ah]
 rw[BM8 x.2.2.2.2.1 (l - (cnt qB x.1:Int) - (cnt vG x.2.1:Int) - (cnt (.sl xZ) x.2.2.1:Int) - (cnt (.sl (.sl vL)) x.2.2.2.1:Int)) (by omega) (by omega) hx.2.2.2.2.1]
 simp only[Aa]
 by_cases n5:l - (cnt qB x.1:Int) - (cnt vG x.2.1:Int) - (cnt (.sl xZ) x.2.2.1:Int) - (cnt (.sl (.sl vL)) x.2.2.2.1:Int) < (cnt (.sl yN) x.2.2.2.2.1:Int)
 ·rw[nV n5,hc,nV (by omega)];rfl
 rw[dZ (by omega),show decide (l - (cnt qB x.1:Int) - (cnt vG x.2.1:Int) - (cnt (.sl xZ) x.2.2.1:Int) - (cnt (.sl (.sl vL)) x.2.2.2.1:Int) - (cnt (.sl yN) x.2.2.2.2.1:Int) < 0)=false from Ae (by omega)]
 simp only[Ah]
 rw[hc,dZ (by omega)]
 exact AE (fun z=>some (z,())) (by omega)
theorem Bt0 (x:yE) (hx:cnt xZ x≤1048576):AJ0 R x=some (x,()):=by
 have hq:AJ0 R x=_:=call (A8D R L x)
 have hc:cnt xZ x=(0+(0+(0))):=rfl
 refine hq.trans ?_
 rfl
theorem BV7 (x:List (yE)) (hx:cnt (.sl xZ) x≤1048576):AD5 R x=some (x,()):=by
 have hq:AD5 R x=_:=call (A5O R L x)
 have hc:cnt (.sl xZ) x=x.length+(x.map (cnt xZ)).sum:=rfl
 rw[hq,AE1,tn,wF (by omega)]
 refine An6 (fun w i=>qD R L x [] w i) x ((0:Int),((0:Int),())) (fun w hw=>?_) (fun w i hlt hw=>?_) _ 0 _ rfl (An _) (by simp) (fun j hj=>by omega)
 ·have hq:qD R L x [] w (x.length:Nat)=_:=round (by kernel_rfl) (Ab3 R L x [] w (x.length:Nat))
  show qD R L x [] w (x.length:Nat)=_
  rw[hq,jG (Aj _)];rfl
 ·have hq:qD R L x [] w i=_:=round (by kernel_rfl) (Ab3 R L x [] w i)
  show qD R L x [] w i=_
  rw[hq,lZ hlt,nn,tn,zO hlt,zO (n:=w.length) (by omega),zB (i:=i) (by omega)]
  have hm:cnt xZ (x.getD i ((0:Int),((0:Int),())))≤cnt (.sl xZ) x:=cN (t:=xZ) (x:=x) (d:=((0:Int),((0:Int),()))) hlt
  rw[Bt0 _ (by omega)]
  rfl
theorem Bp6 (x:List (List (pI))) (hx:cnt (.sl (.sl vL)) x≤1048576):AM6 R x=some (x,()):=by
 have hq:AM6 R x=_:=call (A70 R L x)
 have hc:cnt (.sl (.sl vL)) x=x.length+(x.map (cnt (.sl vL))).sum:=rfl
 rw[hq,AE1,tn,wF (by omega)]
 refine An6 (fun w i=>pC R L x [] w i) x ([]:List (pI)) (fun w hw=>?_) (fun w i hlt hw=>?_) _ 0 _ rfl (An _) (by simp) (fun j hj=>by omega)
 ·have hq:pC R L x [] w (x.length:Nat)=_:=round (by kernel_rfl) (An7 R L x [] w (x.length:Nat))
  show pC R L x [] w (x.length:Nat)=_
  rw[hq,jG (Aj _)];rfl
 ·have hq:pC R L x [] w i=_:=round (by kernel_rfl) (An7 R L x [] w i)
  show pC R L x [] w i=_
  rw[hq,lZ hlt,nn,tn,zO hlt,zO (n:=w.length) (by omega),zB (i:=i) (by omega)]
  have hm:cnt (.sl vL) (x.getD i ([]:List (pI)))≤cnt (.sl (.sl vL)) x:=cN (t:=(.sl vL)) (x:=x) (d:=([]:List (pI))) hlt
  rw[B0J _ (by omega)]
  rfl
theorem BY2 (x:xI) (hx:cnt yN x≤1048576):AD0 R x=some (x,()):=by
 have hq:AD0 R x=_:=call (A4v R L x)
 have hc:cnt yN x=(0+(cnt (.sl (.int .i64)) x.2.1+(0))):=rfl
 refine hq.trans ?_
 rw[B02 x.2.1 (by omega)]
 rfl
theorem BD3 (x:List (xI)) (hx:cnt (.sl yN) x≤1048576):bU R x=some (x,()):=by
 have hq:bU R x=_:=call (A4i R L x)
 have hc:cnt (.sl yN) x=x.length+(x.map (cnt yN)).sum:=rfl
 rw[hq,AE1,tn,wF (by omega)]
 refine An6 (fun w i=>rA R L x [] w i) x ((0:Int),(([]:List (Int)),())) (fun w hw=>?_) (fun w i hlt hw=>?_) _ 0 _ rfl (An _) (by simp) (fun j hj=>by omega)
 ·have hq:rA R L x [] w (x.length:Nat)=_:=round (by kernel_rfl) (AT1 R L x [] w (x.length:Nat))
  show rA R L x [] w (x.length:Nat)=_
  rw[hq,jG (Aj _)];rfl
 ·have hq:rA R L x [] w i=_:=round (by kernel_rfl) (AT1 R L x [] w i)
  show rA R L x [] w i=_
  rw[hq,lZ hlt,nn,tn,zO hlt,zO (n:=w.length) (by omega),zB (i:=i) (by omega)]
  have hm:cnt yN (x.getD i ((0:Int),(([]:List (Int)),())))≤cnt (.sl yN) x:=cN (t:=yN) (x:=x) (d:=((0:Int),(([]:List (Int)),()))) hlt
  rw[BY2 _ (by omega)]
  rfl
theorem Bn2 (x:fC) (hx:cnt aU x≤1048576):eG R x=some (x,()):=by
 have hq:eG R x=_:=call (A7q R L x)
 have hc:cnt aU x=(cnt qB x.1+(cnt vG x.2.1+(cnt (.sl xZ) x.2.2.1+(cnt (.sl (.sl vL)) x.2.2.2.1+(cnt (.sl yN) x.2.2.2.2.1+(0+(0))))))):=rfl
 refine hq.trans ?_
 rw[Br9 x.1 (by omega)]
 simp only[Aa]
 rw[A40 x.2.1 (by omega)]
 simp only[Aa]
 rw[BV7 x.2.2.1 (by omega)]
 simp only[Aa]
 rw[Bp6 x.2.2.2.1 (by omega)]
 simp only[Aa]
 rw[BD3 x.2.2.2.2.1 (by omega)]
 rfl
theorem Ai9 (R:Run EE) (s0:Int) (a0:FnVal):xB EE R (.mk 268 (.fn a0 .nil)) [⟨(.int .i64),s0⟩]=(eX R s0 a0).map (·.1):=by kernel_rfl
theorem AP6 (R:Run EE) (s0:Ag8) (a0:FnVal):xB EE R (.mk 334 (.fn a0 .nil)) [⟨Ad7,s0⟩]=(kH R s0 a0).map (·.1):=by kernel_rfl
abbrev BL0:FuncId:=205
theorem A7C (R:Run EE) (s0:Int)  : xB EE R (.mk 205 .nil) [⟨(.int .i64),s0⟩]=(gF R s0 ).map (·.1):=by kernel_rfl
theorem A6a (R:Run EE) (s0:Ag8) (a0:Int):xB EE R (.mk 292 (.int .i64 a0 .nil)) [⟨Ad7,s0⟩]=(Ag0 R s0 a0).map (·.1):=by kernel_rfl
theorem AP0 (R:Run EE) (s0:Int)  : xB EE R (.mk 290 .nil) [⟨(.int .i64),s0⟩]=(kS R s0 ).map (·.1):=by kernel_rfl
theorem AT9 (R:Run EE) (s0:List UInt8) (a0:FnVal):xB EE R (.mk 254 (.fn a0 .nil)) [⟨.str,s0⟩]=(iF R s0 a0).map (·.1):=by kernel_rfl
theorem Ae2 (R:Run EE) (s0:A5F) (a0:FnVal):xB EE R (.mk 331 (.fn a0 .nil)) [⟨AP2,s0⟩]=(fR R s0 a0).map (·.1):=by kernel_rfl
theorem A2V (R:Run EE) (s0:List UInt8)  : xB EE R (.mk 285 .nil) [⟨.str,s0⟩]=(fH R s0 ).map (·.1):=by kernel_rfl
theorem A00 (R:Run EE) (s0:A5F)  : xB EE R (.mk 287 .nil) [⟨AP2,s0⟩]=(dK R s0 ).map (·.1):=by kernel_rfl
theorem AZ2 (R:Run EE) (s0:pI) (a0:FnVal):xB EE R (.mk 270 (.fn a0 .nil)) [⟨vL,s0⟩]=(gB R s0 a0).map (·.1):=by kernel_rfl
theorem Ae4 (R:Run EE) (s0:Ag8) (a0:FnVal):xB EE R (.mk 318 (.fn a0 .nil)) [⟨Ad7,s0⟩]=(fX R s0 a0).map (·.1):=by kernel_rfl
theorem BR5 (R:Run EE) (s0:Ag8)  : xB EE R (.mk 272 .nil) [⟨Ad7,s0⟩]=(A0a R s0 ).map (·.1):=by kernel_rfl
theorem BD7 (R:Run EE) (s0:pI)  : xB EE R (.mk 207 .nil) [⟨vL,s0⟩]=(Am9 R s0 ).map (·.1):=by kernel_rfl
theorem AP4 (R:Run EE) (s0:List (pI)) (a0:FnVal):xB EE R (.mk 237 (.fn a0 .nil)) [⟨(.sl vL),s0⟩]=(kA R s0 a0).map (·.1):=by kernel_rfl
theorem AJ7 (R:Run EE) (s0:xI) (a0:FnVal):xB EE R (.mk 299 (.fn a0 .nil)) [⟨yN,s0⟩]=(lL R s0 a0).map (·.1):=by kernel_rfl
abbrev A7M:FuncId:=235
theorem Au2 (R:Run EE) (s0:Int)  : xB EE R (.mk 235 .nil) [⟨(.int .i64),s0⟩]=(kO R s0 ).map (·.1):=by kernel_rfl
theorem Ak1 (R:Run EE) (s0:xI)  : xB EE R (.mk 239 .nil) [⟨yN,s0⟩]=(gJ R s0 ).map (·.1):=by kernel_rfl
theorem A6j (R:Run EE) (s0:List (pI))  : xB EE R (.mk 136 .nil) [⟨(.sl vL),s0⟩]=(AH9 R s0 ).map (·.1):=by kernel_rfl
theorem A7I (R:Run EE) (s0:yE) (s1:Int)  : A5H EE R (.mk 241 .nil) [⟨xZ,s0⟩,⟨(.int .i64),s1⟩]=(Ar8 R s0 s1 ).map (·.1):=by kernel_rfl
theorem Ai6 (R:Run EE) (s0:xI) (s1:xI)  : xB EE R (.mk 177 .nil) [⟨yN,s0⟩,⟨yN,s1⟩]=(iA R s0 s1 ).map (·.1):=by kernel_rfl
theorem eP (x:List (Int)) (w:FnVal) (p:Int→Bool) (hl:x.length≤4611686018427387904) (hp:∀ s ∈ x,xB EE R w [⟨(.int .i64),s⟩]=some (p s)):uT R x w=some (BE6 p x 0,()):=by
 have hq:uT R x w=_:=call (cL R L x w)
 have hq0:rC R L x w 0 x.length 0=_:=round (by kernel_rfl) (eT R L x w 0 x.length 0)
 have hq1:zV R L x w 0 0 x.length 0=_:=round (by kernel_rfl) (rO R L x w 0 0 x.length 0)
 rw[hq,hq0.trans hq1.symm]
 refine AL0 (fun a i=>zV R L x w 0 a x.length i) x (0:Int) p (fun a=>?_) (fun a i hlt=>?_) _ 0 0 rfl (An _)
 ·have hq:zV R L x w 0 a x.length (x.length:Nat)=_:=round (by kernel_rfl) (rO R L x w 0 a x.length (x.length:Nat))
  show zV R L x w 0 a x.length (x.length:Nat)=_
  rw[hq,jG (Aj _)];rfl
 ·have hq:zV R L x w 0 a x.length i=_:=round (by kernel_rfl) (rO R L x w 0 a x.length i)
  show zV R L x w 0 a x.length i=_
  rw[hq,lZ hlt,nn,tn,zO hlt,zB (by omega)]
  simp only[Af]
  rw[hp _ (xK (d:=(0:Int)) hlt)]
  rfl
theorem kQ (x:List (Ag8)) (w:FnVal) (p:Ag8→Bool) (hl:x.length≤4611686018427387904) (hp:∀ s ∈ x,xB EE R w [⟨Ad7,s⟩]=some (p s)):wI R x w=some (BE6 p x 0,()):=by
 have hq:wI R x w=_:=call (iG R L x w)
 rw[hq]
 refine AL0 (fun (_:Int) i=>zL R L x w x.length i) x ((0:Int),((0:Int),((0:Int),()))) p (fun a=>?_) (fun a i hlt=>?_) _ 0 0 rfl (An _)
 ·have hq:zL R L x w x.length (x.length:Nat)=_:=round (by kernel_rfl) (qC R L x w x.length (x.length:Nat))
  show zL R L x w x.length (x.length:Nat)=_
  rw[hq,jG (Aj _)];rfl
 ·have hq:zL R L x w x.length i=_:=round (by kernel_rfl) (qC R L x w x.length i)
  show zL R L x w x.length i=_
  rw[hq,lZ hlt,nn,tn,zO hlt,zB (by omega)]
  simp only[Af]
  rw[hp _ (xK (d:=((0:Int),((0:Int),((0:Int),())))) hlt)]
  rfl
theorem iE (x:List (List UInt8)) (w:FnVal) (p:List UInt8→Bool) (hl:x.length≤4611686018427387904) (hp:∀ s ∈ x,xB EE R w [⟨.str,s⟩]=some (p s)):wU R x w=some (BE6 p x 0,()):=by
 have hq:wU R x w=_:=call (hM R L x w)
 have hq0:uA R L x w 0 x.length 0=_:=round (by kernel_rfl) (iD R L x w 0 x.length 0)
 have hq1:zJ R L x w 0 0 x.length 0=_:=round (by kernel_rfl) (uC R L x w 0 0 x.length 0)
 rw[hq,hq0.trans hq1.symm]
 refine AL0 (fun a i=>zJ R L x w 0 a x.length i) x ([]:List UInt8) p (fun a=>?_) (fun a i hlt=>?_) _ 0 0 rfl (An _)
 ·have hq:zJ R L x w 0 a x.length (x.length:Nat)=_:=round (by kernel_rfl) (uC R L x w 0 a x.length (x.length:Nat))
  show zJ R L x w 0 a x.length (x.length:Nat)=_
  rw[hq,jG (Aj _)];rfl
 ·have hq:zJ R L x w 0 a x.length i=_:=round (by kernel_rfl) (uC R L x w 0 a x.length i)
  show zJ R L x w 0 a x.length i=_
  rw[hq,lZ hlt,nn,tn,zO hlt,zB (by omega)]
  simp only[Af]
  rw[hp _ (xK (d:=([]:List UInt8)) hlt)]
  rfl
theorem fA (x:List (A5F)) (w:FnVal) (p:A5F→Bool) (hl:x.length≤4611686018427387904) (hp:∀ s ∈ x,xB EE R w [⟨AP2,s⟩]=some (p s)):vW R x w=some (BE6 p x 0,()):=by
 have hq:vW R x w=_:=call (eQ R L x w)
 have hq0:tL R L x w 0 x.length 0=_:=round (by kernel_rfl) (fO R L x w 0 x.length 0)
 have hq1:zR R L x w 0 0 x.length 0=_:=round (by kernel_rfl) (tX R L x w 0 0 x.length 0)
 rw[hq,hq0.trans hq1.symm]
 refine AL0 (fun a i=>zR R L x w 0 a x.length i) x ((0:Int),(([]:List UInt8),())) p (fun a=>?_) (fun a i hlt=>?_) _ 0 0 rfl (An _)
 ·have hq:zR R L x w 0 a x.length (x.length:Nat)=_:=round (by kernel_rfl) (tX R L x w 0 a x.length (x.length:Nat))
  show zR R L x w 0 a x.length (x.length:Nat)=_
  rw[hq,jG (Aj _)];rfl
 ·have hq:zR R L x w 0 a x.length i=_:=round (by kernel_rfl) (tX R L x w 0 a x.length i)
  show zR R L x w 0 a x.length i=_
  rw[hq,lZ hlt,nn,tn,zO hlt,zB (by omega)]
  simp only[Af]
  rw[hp _ (xK (d:=((0:Int),(([]:List UInt8),()))) hlt)]
  rfl
theorem hF (x:List (pI)) (w:FnVal) (p:pI→Bool) (hl:x.length≤4611686018427387904) (hp:∀ s ∈ x,xB EE R w [⟨vL,s⟩]=some (p s)):vI R x w=some (BE6 p x 0,()):=by
 have hq:vI R x w=_:=call (fQ R L x w)
 have hq0:uN R L x w 0 x.length 0=_:=round (by kernel_rfl) (hU R L x w 0 x.length 0)
 have hq1:zM R L x w 0 0 x.length 0=_:=round (by kernel_rfl) (uU R L x w 0 0 x.length 0)
 rw[hq,hq0.trans hq1.symm]
 refine AL0 (fun a i=>zM R L x w 0 a x.length i) x (([]:List (Ag8)),()) p (fun a=>?_) (fun a i hlt=>?_) _ 0 0 rfl (An _)
 ·have hq:zM R L x w 0 a x.length (x.length:Nat)=_:=round (by kernel_rfl) (uU R L x w 0 a x.length (x.length:Nat))
  show zM R L x w 0 a x.length (x.length:Nat)=_
  rw[hq,jG (Aj _)];rfl
 ·have hq:zM R L x w 0 a x.length i=_:=round (by kernel_rfl) (uU R L x w 0 a x.length i)
  show zM R L x w 0 a x.length i=_
  rw[hq,lZ hlt,nn,tn,zO hlt,zB (by omega)]
  simp only[Af]
  rw[hp _ (xK (d:=(([]:List (Ag8)),())) hlt)]
  rfl
theorem gU (x:List (Ag8)) (w:FnVal) (p:Ag8→Bool) (hl:x.length≤4611686018427387904) (hp:∀ s ∈ x,xB EE R w [⟨Ad7,s⟩]=some (p s)):vZ R x w=some (BE6 p x 0,()):=by
 have hq:vZ R x w=_:=call (eH R L x w)
 have hq0:tI R L x w 0 x.length 0=_:=round (by kernel_rfl) (fM R L x w 0 x.length 0)
 have hq1:zQ R L x w 0 0 x.length 0=_:=round (by kernel_rfl) (tU R L x w 0 0 x.length 0)
 rw[hq,hq0.trans hq1.symm]
 refine AL0 (fun a i=>zQ R L x w 0 a x.length i) x ((0:Int),((0:Int),((0:Int),()))) p (fun a=>?_) (fun a i hlt=>?_) _ 0 0 rfl (An _)
 ·have hq:zQ R L x w 0 a x.length (x.length:Nat)=_:=round (by kernel_rfl) (tU R L x w 0 a x.length (x.length:Nat))
  show zQ R L x w 0 a x.length (x.length:Nat)=_
  rw[hq,jG (Aj _)];rfl
 ·have hq:zQ R L x w 0 a x.length i=_:=round (by kernel_rfl) (tU R L x w 0 a x.length i)
  show zQ R L x w 0 a x.length i=_
  rw[hq,lZ hlt,nn,tn,zO hlt,zB (by omega)]
  simp only[Af]
  rw[hp _ (xK (d:=((0:Int),((0:Int),((0:Int),())))) hlt)]
  rfl
theorem jE (x:List (List (pI))) (w:FnVal) (p:List (pI)→Bool) (hl:x.length≤4611686018427387904) (hp:∀ s ∈ x,xB EE R w [⟨(.sl vL),s⟩]=some (p s)):wJ R x w=some (BE6 p x 0,()):=by
 have hq:wJ R x w=_:=call (iC R L x w)
 have hq0:vJ R L x w 0 x.length 0=_:=round (by kernel_rfl) (kV R L x w 0 x.length 0)
 have hq1:zH R L x w 0 0 x.length 0=_:=round (by kernel_rfl) (vP R L x w 0 0 x.length 0)
 rw[hq,hq0.trans hq1.symm]
 refine AL0 (fun a i=>zH R L x w 0 a x.length i) x ([]:List (pI)) p (fun a=>?_) (fun a i hlt=>?_) _ 0 0 rfl (An _)
 ·have hq:zH R L x w 0 a x.length (x.length:Nat)=_:=round (by kernel_rfl) (vP R L x w 0 a x.length (x.length:Nat))
  show zH R L x w 0 a x.length (x.length:Nat)=_
  rw[hq,jG (Aj _)];rfl
 ·have hq:zH R L x w 0 a x.length i=_:=round (by kernel_rfl) (vP R L x w 0 a x.length i)
  show zH R L x w 0 a x.length i=_
  rw[hq,lZ hlt,nn,tn,zO hlt,zB (by omega)]
  simp only[Af]
  rw[hp _ (xK (d:=([]:List (pI))) hlt)]
  rfl
theorem lM (x:List (xI)) (w:FnVal) (p:xI→Bool) (hl:x.length≤4611686018427387904) (hp:∀ s ∈ x,xB EE R w [⟨yN,s⟩]=some (p s)):xW R x w=some (BE6 p x 0,()):=by
 have hq:xW R x w=_:=call (kL R L x w)
 have hq0:wW R L x w 0 x.length 0=_:=round (by kernel_rfl) (lK R L x w 0 x.length 0)
 have hq1:zF R L x w 0 0 x.length 0=_:=round (by kernel_rfl) (vE R L x w 0 0 x.length 0)
 rw[hq,hq0.trans hq1.symm]
 refine AL0 (fun a i=>zF R L x w 0 a x.length i) x ((0:Int),(([]:List (Int)),())) p (fun a=>?_) (fun a i hlt=>?_) _ 0 0 rfl (An _)
 ·have hq:zF R L x w 0 a x.length (x.length:Nat)=_:=round (by kernel_rfl) (vE R L x w 0 a x.length (x.length:Nat))
  show zF R L x w 0 a x.length (x.length:Nat)=_
  rw[hq,jG (Aj _)];rfl
 ·have hq:zF R L x w 0 a x.length i=_:=round (by kernel_rfl) (vE R L x w 0 a x.length i)
  show zF R L x w 0 a x.length i=_
  rw[hq,lZ hlt,nn,tn,zO hlt,zB (by omega)]
  simp only[Af]
  rw[hp _ (xK (d:=((0:Int),(([]:List (Int)),()))) hlt)]
  rfl
theorem gD (x y:List (yE)) (hl:x.length≤4611686018427387904):vH R x y=some (eqC x y,()):=by
 have hq:vH R x y=_:=call (fV R L x y)
 rw[hq,A1s]
 by_cases h:x.length=y.length
 ·rw[Ad h]
  simp only[Ap,Ah]
  refine A8B (fun (_:Int) i=>zU R L x y x.length i) (fun i=>(i:Int)) x y ((0:Int),((0:Int),())) (eqD xZ) (fun a b=>A4A (t:=xZ) rfl a b) h (fun a=>?_) (fun a i hlt=>?_) _ 0 0 rfl (An _)
  ·have hq:zU R L x y x.length (x.length:Nat)=_:=round (by kernel_rfl) (pL R L x y x.length (x.length:Nat))
   show zU R L x y x.length (x.length:Nat)=_
   rw[hq,jG (Aj _)];rfl
  ·have hq:zU R L x y x.length i=_:=round (by kernel_rfl) (pL R L x y x.length i)
   show zU R L x y x.length i=_
   rw[hq,lZ hlt,nn,tn,zO hlt,zO (n:=y.length) (by omega),zB (by omega)]
   simp only[Af]
   exact Ah6 (eqD xZ (x.getD i ((0:Int),((0:Int),()))) (y.getD i ((0:Int),((0:Int),()))))
 ·rw[Ae h,A3m h];rfl
theorem aN (x y:List (Int)) (hl:x.length≤4611686018427387904):rW R x y=some (eqC x y,()):=by
 have hq:rW R x y=_:=call (AE5 R L x y)
 rw[hq,A1s]
 by_cases h:x.length=y.length
 ·rw[Ad h]
  simp only[Ap,Ah]
  refine A8B (fun (_:Int) i=>yO R L x y x.length i) (fun i=>(i:Int)) x y (0:Int) (eqD (.int .i64)) (fun a b=>A4A (t:=(.int .i64)) rfl a b) h (fun a=>?_) (fun a i hlt=>?_) _ 0 0 rfl (An _)
  ·have hq:yO R L x y x.length (x.length:Nat)=_:=round (by kernel_rfl) (jD R L x y x.length (x.length:Nat))
   show yO R L x y x.length (x.length:Nat)=_
   rw[hq,jG (Aj _)];rfl
  ·have hq:yO R L x y x.length i=_:=round (by kernel_rfl) (jD R L x y x.length i)
   show yO R L x y x.length i=_
   rw[hq,lZ hlt,nn,tn,zO hlt,zO (n:=y.length) (by omega),zB (by omega)]
   simp only[Af]
   exact Ah6 (eqD (.int .i64) (x.getD i (0:Int)) (y.getD i (0:Int)))
 ·rw[Ae h,A3m h];rfl
theorem rB (x y:List (xI)) (w:FnVal) (p:xI→xI→Bool) (hl:x.length≤4611686018427387904) (hp:∀ a ∈ x,∀ b ∈ y,xB EE R w [⟨yN,a⟩,⟨yN,b⟩]=some (p a b)):zZ R x y w=some (By1 p x y,()):=by
 have hq:zZ R x y w=_:=call (rP R L x y w)
 rw[hq,A1s]
 by_cases h:x.length=y.length
 ·rw[Ad h]
  simp only[Ap,Ah]
  refine A4U (β:=Unit) (fun _ i=>zC R L y w x x.length i) (fun _=>()) x y ((0:Int),(([]:List (Int)),())) ((0:Int),(([]:List (Int)),())) p h (fun a=>?_) (fun a i hlt=>?_) _ 0 () rfl (An _)
  ·have hq:zC R L y w x x.length (x.length:Nat)=_:=round (by kernel_rfl) (wE R L y w x x.length (x.length:Nat))
   show zC R L y w x x.length (x.length:Nat)=_
   rw[hq,jG (Aj _)];rfl
  ·have hq:zC R L y w x x.length i=_:=round (by kernel_rfl) (wE R L y w x x.length i)
   show zC R L y w x x.length i=_
   rw[hq,lZ hlt,nn,tn,zO hlt,zO (n:=y.length) (by omega),zB (by omega)]
   simp only[Af]
   rw[hp _ (xK (d:=((0:Int),(([]:List (Int)),()))) hlt) _ (xK (d:=((0:Int),(([]:List (Int)),()))) (by omega))]
   exact Ah6 (p (x.getD i ((0:Int),(([]:List (Int)),()))) (y.getD i ((0:Int),(([]:List (Int)),()))))
 ·rw[Ae h,A9l h];rfl
theorem gQ (x:List (Int)) (w:FnVal) (p:Int→Bool) (hl:x.length≤4611686018427387904) (hp:∀ s ∈ x,xB EE R w [⟨(.int .i64),s⟩]=some (p s)):vN R x w=some (x.any p,()):=by
 have hq:vN R x w=_:=call (eA R L x w)
 rw[hq,eP x w p hl hp]
 simp only[Aa]
 rw[bL]
theorem lG (x:List (Ag8)) (w:FnVal) (p:Ag8→Bool) (hl:x.length≤4611686018427387904) (hp:∀ s ∈ x,xB EE R w [⟨Ad7,s⟩]=some (p s)):xO R x w=some (x.any p,()):=by
 have hq:xO R x w=_:=call (lW R L x w)
 rw[hq,kQ x w p hl hp]
 simp only[Aa]
 rw[bL]
theorem lY (x:List (List UInt8)) (w:FnVal) (p:List UInt8→Bool) (hl:x.length≤4611686018427387904) (hp:∀ s ∈ x,xB EE R w [⟨.str,s⟩]=some (p s)):wA R x w=some (x.any p,()):=by
 have hq:wA R x w=_:=call (jW R L x w)
 rw[hq,iE x w p hl hp]
 simp only[Aa]
 rw[bL]
theorem iS (x:List (A5F)) (w:FnVal) (p:A5F→Bool) (hl:x.length≤4611686018427387904) (hp:∀ s ∈ x,xB EE R w [⟨AP2,s⟩]=some (p s)):wZ R x w=some (x.any p,()):=by
 have hq:wZ R x w=_:=call (gR R L x w)
 rw[hq,fA x w p hl hp]
 simp only[Aa]
 rw[bL]
theorem jO (x:List (pI)) (w:FnVal) (p:pI→Bool) (hl:x.length≤4611686018427387904) (hp:∀ s ∈ x,xB EE R w [⟨vL,s⟩]=some (p s)):wR R x w=some (x.any p,()):=by
 have hq:wR R x w=_:=call (iK R L x w)
 rw[hq,hF x w p hl hp]
 simp only[Aa]
 rw[bL]
theorem iN (x:List (Ag8)) (w:FnVal) (p:Ag8→Bool) (hl:x.length≤4611686018427387904) (hp:∀ s ∈ x,xB EE R w [⟨Ad7,s⟩]=some (p s)):vA R x w=some (x.any p,()):=by
 have hq:vA R x w=_:=call (gP R L x w)
 rw[hq,gU x w p hl hp]
 simp only[Aa]
 rw[bL]
theorem lH (x:List (List (pI))) (w:FnVal) (p:List (pI)→Bool) (hl:x.length≤4611686018427387904) (hp:∀ s ∈ x,xB EE R w [⟨(.sl vL),s⟩]=some (p s)):xP R x w=some (x.any p,()):=by
 have hq:xP R x w=_:=call (lX R L x w)
 rw[hq,jE x w p hl hp]
 simp only[Aa]
 rw[bL]
theorem mB (x:List (xI)) (w:FnVal) (p:xI→Bool) (hl:x.length≤4611686018427387904) (hp:∀ s ∈ x,xB EE R w [⟨yN,s⟩]=some (p s)):xH R x w=some (x.any p,()):=by
 have hq:xH R x w=_:=call (lE R L x w)
 rw[hq,lM x w p hl hp]
 simp only[Aa]
 rw[bL]
theorem iB (x:List (Int)) (v:FnVal) (p:Int→Bool) (hl:x.length≤4611686018427387904) (hp:∀ s ∈ x,xB EE R v [⟨(.int .i64),s⟩]=some (p s)):tZ R x v=some (x.all p,()):=by
 have hq:tZ R x v=_:=call (A1K R L x v)
 rw[hq,gQ x (.mk 268 (.fn v .nil)) (fun s=>!p s) hl (fun s hs=>by
  have h1:eX R s v=_:=call (Ao6 R L s v)
  rw[Ai9,h1,hp s hs];rfl)]
 simp only[Aa]
 rw[AR0]
theorem AU2 (x:List (Ag8)) (v:FnVal) (p:Ag8→Bool) (hl:x.length≤4611686018427387904) (hp:∀ s ∈ x,xB EE R v [⟨Ad7,s⟩]=some (p s)):mT R x v=some (x.all p,()):=by
 have hq:mT R x v=_:=call (Ag3 R L x v)
 rw[hq,lG x (.mk 334 (.fn v .nil)) (fun s=>!p s) hl (fun s hs=>by
  have h1:kH R s v=_:=call (AU8 R L s v)
  rw[AP6,h1,hp s hs];rfl)]
 simp only[Aa]
 rw[AR0]
theorem AZ1 (x:List (List UInt8)) (v:FnVal) (p:List UInt8→Bool) (hl:x.length≤4611686018427387904) (hp:∀ s ∈ x,xB EE R v [⟨.str,s⟩]=some (p s)):lP R x v=some (x.all p,()):=by
 have hq:lP R x v=_:=call (Ah8 R L x v)
 rw[hq,lY x (.mk 254 (.fn v .nil)) (fun s=>!p s) hl (fun s hs=>by
  have h1:iF R s v=_:=call (AZ3 R L s v)
  rw[AT9,h1,hp s hs];rfl)]
 simp only[Aa]
 rw[AR0]
theorem Ai4 (x:List (A5F)) (v:FnVal) (p:A5F→Bool) (hl:x.length≤4611686018427387904) (hp:∀ s ∈ x,xB EE R v [⟨AP2,s⟩]=some (p s)):iW R x v=some (x.all p,()):=by
 have hq:iW R x v=_:=call (A0A R L x v)
 rw[hq,iS x (.mk 331 (.fn v .nil)) (fun s=>!p s) hl (fun s hs=>by
  have h1:fR R s v=_:=call (Ah2 R L s v)
  rw[Ae2,h1,hp s hs];rfl)]
 simp only[Aa]
 rw[AR0]
theorem Ae5 (x:List (pI)) (v:FnVal) (p:pI→Bool) (hl:x.length≤4611686018427387904) (hp:∀ s ∈ x,xB EE R v [⟨vL,s⟩]=some (p s)):jL R x v=some (x.all p,()):=by
 have hq:jL R x v=_:=call (Ar4 R L x v)
 rw[hq,jO x (.mk 270 (.fn v .nil)) (fun s=>!p s) hl (fun s hs=>by
  have h1:gB R s v=_:=call (Af8 R L s v)
  rw[AZ2,h1,hp s hs];rfl)]
 simp only[Aa]
 rw[AR0]
theorem Ai7 (x:List (Ag8)) (v:FnVal) (p:Ag8→Bool) (hl:x.length≤4611686018427387904) (hp:∀ s ∈ x,xB EE R v [⟨Ad7,s⟩]=some (p s)):iX R x v=some (x.all p,()):=by
 have hq:iX R x v=_:=call (Ay9 R L x v)
 rw[hq,iN x (.mk 318 (.fn v .nil)) (fun s=>!p s) hl (fun s hs=>by
  have h1:fX R s v=_:=call (Am8 R L s v)
  rw[Ae4,h1,hp s hs];rfl)]
 simp only[Aa]
 rw[AR0]
theorem AQ5 (x:List (List (pI))) (v:FnVal) (p:List (pI)→Bool) (hl:x.length≤4611686018427387904) (hp:∀ s ∈ x,xB EE R v [⟨(.sl vL),s⟩]=some (p s)):mY R x v=some (x.all p,()):=by
 have hq:mY R x v=_:=call (Af5 R L x v)
 rw[hq,lH x (.mk 237 (.fn v .nil)) (fun s=>!p s) hl (fun s hs=>by
  have h1:kA R s v=_:=call (AU0 R L s v)
  rw[AP4,h1,hp s hs];rfl)]
 simp only[Aa]
 rw[AR0]
theorem eD (x:List (xI)) (v:FnVal) (p:xI→Bool) (hl:x.length≤4611686018427387904) (hp:∀ s ∈ x,xB EE R v [⟨yN,s⟩]=some (p s)):nL R x v=some (x.all p,()):=by
 have hq:nL R x v=_:=call (AZ5 R L x v)
 rw[hq,mB x (.mk 299 (.fn v .nil)) (fun s=>!p s) hl (fun s hs=>by
  have h1:lL R s v=_:=call (AO9 R L s v)
  rw[AJ7,h1,hp s hs];rfl)]
 simp only[Aa]
 rw[AR0]
end Go.Rf.S

end
section
namespace Go.Rf.S
set_option maxRecDepth 100000
def inB (n a b:Int):Bool:=decide (a≤n)&&decide (n≤b)
theorem xR {n a b:Int} (h:inB n a b=true):a≤n∧n≤b:=by
 unfold inB at h
 simpa using h
theorem uB (n a b:Int):wT R n a b=some (inB n a b,()):=by
 have hq:wT R n a b=_:=call (Bc4 R L n a b)
 rw[hq]
 unfold inB
 cases decide (a≤n)<;>rfl
theorem uZ (n a b:Int):uF R n a b=some (inB n a b,()):=by
 have hq:uF R n a b=_:=call (BL5 R L n a b)
 rw[hq]
 unfold inB
 cases decide (a≤n)<;>rfl
theorem Bb3 (n:Int):An5 R n=some (inB n 0 39,()):=by
 have hq:An5 R n=_:=call (Bb6 R L n)
 rw[hq,uB];rfl
theorem A6N (n:Int):AC8 R n=some (inB n 0 39,()):=by
 have hq:AC8 R n=_:=call (A5R R L n)
 rw[hq,uZ];rfl
theorem A1S (n:Int):AG6 R n=some (inB n 1 9999,()):=by
 have hq:AG6 R n=_:=call (Ba9 R L n)
 rw[hq,uZ];rfl
theorem aV (n:Int):kO R n=some (inB n 0 999999,()):=by
 have hq:kO R n=_:=call (A8F R L n)
 rw[hq,uZ];rfl
theorem BK2 (n:Int):aD R n=some (inB n 0 19,()):=by
 have hq:aD R n=_:=call (A2m R L n)
 rw[hq,uZ];rfl
theorem A3W (s:Int):xB EE R (.mk A7M .nil) [⟨.int .i64,s⟩]=some (inB s 0 999999):=by
 rw[Au2,aV];rfl
def A5M (t:List UInt8):Bool:=decide (t.length=32)
theorem A4g (t:List UInt8):eqI (t.length:Int) 32=A5M t:=by
 unfold A5M
 rw[yU]
 by_cases h:t.length=32
 ·rw[Ad h,Ad (by omega)]
 ·rw[Ae h,Ae (by omega)]
theorem AQ8 (t:List UInt8):gG R t=some (A5M t,()):=by
 have hq:gG R t=_:=call (A6S R L t)
 rw[hq,A4g]
theorem A3e (a b:Int):A3H a b=min a b:=by
 unfold A3H
 by_cases h:b < a
 ·rw[Ad h];simp only[Af];omega
 ·rw[Ae h];simp only[Ah];omega
def B1N (x:A5F):Bool:=inB x.1 0 39&&decide (x.2.1.length≤700)
def Bn1 (s:List UInt8):Bool:=decide (s.length≤700)
def At0 (d:mN):Bool:=decide (d.1.length=40)&&(decide (d.2.1.length≤60)&&(d.1.all Bn1&&d.2.1.all B1N))
theorem gtN (n m:Nat):decide ((m:Int) < (n:Int))=!decide (n≤m):=by
 by_cases h:n≤m
 ·rw[Ae (by omega),Ad h];rfl
 ·rw[Ad (by omega),Ae h];rfl
theorem leN (n m:Nat):decide ((n:Int)≤(m:Int))=decide (n≤m):=AL.2 (by omega)
theorem B3C:∀ (n:Nat) (v0 v1:mN) (v2:Bool) (v3:Int) (i:Nat),v1.2.1.length - i=n→i≤v1.2.1.length→v1.2.1.length≤60→nZ R L v0 v1 v2 v3 i=some ((v1.2.1.drop i).all B1N,())
 | 0,v0,v1,v2,v3,i,hn,hi,hl=>by
  have hq:nZ R L v0 v1 v2 v3 i=_:=round (by kernel_rfl) (Ad5 R L v0 v1 v2 v3 i)
  rw[hq,jG (by omega),A4 (by omega)];rfl
 | n+1,v0,v1,v2,v3,i,hn,hi,hl=>by
  have hlt:i < v1.2.1.length:=by omega
  have hq:nZ R L v0 v1 v2 v3 i=_:=round (by kernel_rfl) (Ad5 R L v0 v1 v2 v3 i)
  rw[hq,lZ hlt,nn,tn,zO hlt]
  simp only[Af]
  rw[Bb3]
  simp only[Aa]
  rw[show (700:Int)=((700:Nat):Int) from rfl,gtN,zB (by omega),B3C n v0 v1 v2 v3 (i+1) (by omega) (by omega) hl,yH (d:=(0,([],()))) hlt,AN]
  generalize v1.2.1.getD i (0,([],()))=p
  unfold B1N
  cases inB p.1 0 39<;>cases decide (p.2.1.length≤700)<;>rfl
theorem B29:∀ (n:Nat) (v0 v1:mN) (v2:Bool) (i:Nat),v1.1.length - i=n→i≤v1.1.length→v1.1.length≤40→v1.2.1.length≤60→nR R L v0 v1 v2 i=some ((v1.1.drop i).all Bn1&&v1.2.1.all B1N,())
 | 0,v0,v1,v2,i,hn,hi,hl,hl2=>by
  have hq:nR R L v0 v1 v2 i=_:=round (by kernel_rfl) (Aa3 R L v0 v1 v2 i)
  rw[hq,jG (by omega),A4 (by omega)]
  exact B3C _ v0 v1 v2 i 0 rfl (by omega) hl2
 | n+1,v0,v1,v2,i,hn,hi,hl,hl2=>by
  have hlt:i < v1.1.length:=by omega
  have hq:nR R L v0 v1 v2 i=_:=round (by kernel_rfl) (Aa3 R L v0 v1 v2 i)
  rw[hq,lZ hlt,nn,tn,zO hlt]
  simp only[Af]
  rw[show (700:Int)=((700:Nat):Int) from rfl,gtN,zB (by omega),B29 n v0 v1 v2 (i+1) (by omega) (by omega) hl hl2,yH (d:=[]) hlt,AN]
  generalize v1.1.getD i []=p
  unfold Bn1
  cases decide (p.length≤700)<;>rfl
theorem Ax5 (d:mN):dV R d=some (At0 d,()):=by
 have hq:dV R d=_:=call (A5B R L d)
 rw[hq,yU]
 unfold At0
 by_cases h:d.1.length=40
 ·rw[show decide ((d.1.length:Int)=40)=true from Ad (by omega),Ad h]
  by_cases h2:d.2.1.length≤60
  ·rw[show decide ((60:Int) < (d.2.1.length:Int))=false from Ae (by omega),Ad h2]
   exact B29 _ d d false 0 rfl (by omega) (by omega) h2
  ·rw[show decide ((60:Int) < (d.2.1.length:Int))=true from Ad (by omega),Ae h2];rfl
 ·rw[show decide ((d.1.length:Int)=40)=false from Ae (by omega),Ae h];rfl
theorem Aj0 (s:List UInt8):fH R s=some (Bn1 s,()):=by
 have hq:fH R s=_:=call (A4n R L s)
 rw[hq,show (700:Int)=((700:Nat):Int) from rfl,leN];rfl
theorem A2E (s:A5F):dK R s=some (B1N s,()):=by
 have hq:dK R s=_:=call (A16 R L s)
 rw[hq,A6N]
 simp only[Aa]
 rw[Aj0]
 unfold B1N Bn1
 cases inB s.1 0 39<;>rfl
theorem A4r (d:mN):AB6 R d=some (At0 d,()):=by
 have hq:AB6 R d=_:=call (A5T R L d)
 rw[hq,yU]
 unfold At0
 by_cases h:d.1.length=40
 ·rw[show decide ((d.1.length:Int)=40)=true from Ad (by omega),Ad h]
  simp only[Af]
  rw[AZ1 d.1 _ Bn1 (by omega) (fun s _=>by rw[A2V,Aj0];rfl)]
  simp only[Aa]
  by_cases h2:d.2.1.length≤60
  ·rw[show decide ((d.2.1.length:Int)≤(60:Int))=true from Ad (by omega),Ad h2]
   simp only[Af]
   rw[Ai4 d.2.1 _ B1N (by omega) (fun s _=>by rw[A00,A2E];rfl)]
   cases d.1.all Bn1<;>simp
  ·rw[show decide ((d.2.1.length:Int)≤(60:Int))=false from Ae (by omega),Ae h2]
   cases d.1.all Bn1<;>simp
 ·rw[show decide ((d.1.length:Int)=40)=false from Ae (by omega),Ae h];rfl
def A6b (x:eJ):Bool:=inB x.1 0 1000000&&(inB x.2.1 0 1&&(inB x.2.2.2.1 0 1000000&&(inB x.2.2.1 x.1 (min (x.1+4) 1000000)&&(A5M x.2.2.2.2.1&&(A5M x.2.2.2.2.2.1&&(A5M x.2.2.2.2.2.2.1&&(decide (x.1 < x.2.2.1)|| decide (x.2.2.2.2.1=x.2.2.2.2.2.1))))))))
theorem A2N (x:eJ):dD R x=some (A6b x,()):=by
 have hq:dD R x=_:=call (A2R R L x)
 rw[hq,uB]
 unfold A6b
 simp only[Aa]
 cases h0:inB x.1 0 1000000 with
 | false=>rfl
 | true=>
  have hb:=xR h0
  simp only[Af,AG]
  rw[uB]
  simp only[Aa]
  cases inB x.2.1 0 1 with
  | false=>rfl
  | true=>
   simp only[Af,AG]
   rw[uB]
   simp only[Aa]
   cases inB x.2.2.2.1 0 1000000 with
   | false=>rfl
   | true=>
    simp only[Af,AG]
    rw[uB,A3e,zI (by omega) (by omega)]
    simp only[Aa,A4g,iI]
    cases inB x.2.2.1 x.1 (min (x.1+4) 1000000)<;>cases A5M x.2.2.2.2.1<;>cases A5M x.2.2.2.2.2.1<;>cases A5M x.2.2.2.2.2.2.1<;>cases decide (x.1 < x.2.2.1)<;>rfl
theorem A2P (x:eJ):dI R x=some (A6b x,()):=by
 have hq:dI R x=_:=call (A2H R L x)
 have hq2:qO R x=_:=call (cR R L x)
 rw[hq,uZ]
 unfold A6b
 simp only[Aa]
 cases h0:inB x.1 0 1000000 with
 | false=>rfl
 | true=>
  have hb:=xR h0
  simp only[Af,AG]
  rw[uZ]
  simp only[Aa]
  cases inB x.2.1 0 1 with
  | false=>rfl
  | true=>
   simp only[Af,AG]
   rw[uZ,A3e,zI (by omega) (by omega)]
   simp only[Aa]
   cases h2:inB x.2.2.1 x.1 (min (x.1+4) 1000000) with
   | false=>cases inB x.2.2.2.1 0 1000000<;>rfl
   | true=>
    have hc:=xR h2
    simp only[Af,AG]
    rw[uZ,AQ8,AQ8,AQ8,hq2,zI (by omega) (by omega)]
    simp only[Aa,iI]
    rw[show decide ((0:Int) < x.2.2.1 - x.1)=decide (x.1 < x.2.2.1) from AL.2 (by omega)]
    cases inB x.2.2.2.1 0 1000000<;>cases A5M x.2.2.2.2.1<;>cases A5M x.2.2.2.2.2.1<;>cases A5M x.2.2.2.2.2.2.1<;>cases decide (x.1 < x.2.2.1)<;>rfl
def Az8 (d:mN):Bool:=decide (d.2.1.length=0)
theorem A9r (d:mN):eqI (d.2.1.length:Int) 0=Az8 d:=by
 unfold Az8
 rw[yU]
 exact AL.2 (by omega)
theorem Bj7 (d:mN):decide ((0:Int) < (d.2.1.length:Int))=!Az8 d:=by
 unfold Az8
 by_cases h:d.2.1.length=0
 ·rw[Ad h,Ae (by omega)];rfl
 ·rw[Ae h,Ad (by omega)];rfl
def AM5 (x:uO):Bool:=A5M x.1&&(A6b x.2.1&&(At0 x.2.2.1&&(Az8 x.2.2.1&&!(x.2.2.2.1&&x.2.2.2.2.1))))
theorem A8n (x:uO):AM4 R x=some (AM5 x,()):=by
 have hq:AM4 R x=_:=call (A9B R L x)
 rw[hq,A2N,Ax5]
 simp only[Aa,A4g,A9r]
 unfold AM5
 cases A5M x.1<;>cases A6b x.2.1<;>cases At0 x.2.2.1<;>cases Az8 x.2.2.1<;>cases x.2.2.2.1<;>rfl
theorem A2Y (d:mN):AF3 R d=some (At0 d&&Az8 d,()):=by
 have hq:AF3 R d=_:=call (BD8 R L d)
 rw[hq,A4r,A9r]
 simp only[Aa]
 cases At0 d<;>rfl
theorem A7j (x:uO):AK4 R x=some (AM5 x,()):=by
 have hq:AK4 R x=_:=call (A8c R L x)
 rw[hq,A2P,A2Y]
 simp only[Aa,A4g]
 unfold AM5
 cases A5M x.1<;>cases A6b x.2.1<;>cases At0 x.2.2.1<;>cases Az8 x.2.2.1<;>cases x.2.2.2.1<;>rfl
def ltO:Option Int→Int→Bool
 | none,_=>true
 | some p,k=>decide (p < k)
def A69:Option Int→List yE→Bool
 | _,[]=>true
 | p,e :: es=>inB e.1 1 9999&&(inB e.2.1 0 999999&&(ltO p e.1&&A69 (some e.1) es))
def Ab4 (v:List yE):Nat→Option Int
 | 0=>none
 | j+1=>some (v.getD j (0,(0,()))).1
def A5W (m:List yE):Bool:=A69 none m&&decide (m.length≤11)
theorem A5x (p k:Int):decide (p < k)=!decide (k≤p):=by
 by_cases h:k≤p
 ·rw[Ad h,Ae (by omega)];rfl
 ·rw[Ae h,Ad (by omega)];rfl
theorem cD {i:Nat} (h:i+1 < 9223372036854775807):Ac .i64 (((i+1:Nat):Int) - 1)=(i:Int):=by
 rw[zI (by omega) (by omega)];omega
theorem A9z:∀ (n:Nat) (v:List yE) (b:Bool) (i:Nat),v.length - i=n→i≤v.length→v.length≤4611686018427387904→kK R L v b i=some (A69 (Ab4 v i) (v.drop i)&&decide (v.length≤11),())
 | 0,v,b,i,hn,hi,hl=>by
  have hq:kK R L v b i=_:=round (by kernel_rfl) (A1w R L v b i)
  rw[hq,jG (by omega),A4 (by omega),show (11:Int)=((11:Nat):Int) from rfl,leN];rfl
 | n+1,v,b,i,hn,hi,hl=>by
  have hlt:i < v.length:=by omega
  have hq:kK R L v b i=_:=round (by kernel_rfl) (A1w R L v b i)
  rw[hq,lZ hlt,nn,tn,zO hlt,uB,uB,zB (by omega),A9z n v b (i+1) (by omega) (by omega) hl,yH (d:=(0,(0,()))) hlt]
  simp only[Af,Aa,A69]
  cases i with
  | zero=>
   rw[show decide ((0:Int) < ((0:Nat):Int))=false from rfl]
   show _=some ((inB _ _ _&&(inB _ _ _&&(true&&A69 (Ab4 v 1) _)))&&_,())
   generalize A69 (Ab4 v 1) (v.drop 1)=z
   cases inB (v.getD 0 (0,(0,()))).1 1 9999<;>cases inB (v.getD 0 (0,(0,()))).2.1 0 999999<;>rfl
  | succ j=>
   rw[show decide ((0:Int) < ((j+1:Nat):Int))=true from Ad (by omega),cD (by omega),nn,tn,zO (by omega)]
   show _=some ((inB _ _ _&&(inB _ _ _&&(decide ((v.getD j (0,(0,()))).1 < (v.getD (j+1) (0,(0,()))).1)&&A69 (Ab4 v (j+1+1)) _)))&&_,())
   rw[A5x]
   simp only[Af]
   generalize A69 (Ab4 v (j+1+1)) (v.drop (j+1+1))=z
   cases inB (v.getD (j+1) (0,(0,()))).1 1 9999<;>cases inB (v.getD (j+1) (0,(0,()))).2.1 0 999999<;>cases decide ((v.getD (j+1) (0,(0,()))).1≤(v.getD j (0,(0,()))).1)<;>rfl
theorem Bb4 (m:List yE):Am4 R m=some (A5W m,()):=by
 have hq:Am4 R m=_:=call (BX4 R L m)
 rw[hq]
 by_cases h:m.length≤4096
 ·rw[show decide ((4096:Int) < (m.length:Int))=false from Ae (by omega)]
  exact A9z _ m false 0 rfl (by omega) (by omega)
 ·rw[show decide ((4096:Int) < (m.length:Int))=true from Ad (by omega)]
  unfold A5W
  rw[show decide (m.length≤11)=false from Ae (by omega),Bool.and_false];rfl
theorem A9i:∀ (n:Nat) (v:List yE) (b:Bool) (v3:Int) (v4:yE) (i:Nat),v.length - i=n→i≤v.length→v.length≤4611686018427387904→oU R L v b v3 v4 v v.length i=some (A69 (Ab4 v i) (v.drop i)&&decide (v.length≤11),())
 | 0,v,b,v3,v4,i,hn,hi,hl=>by
  have hq:oU R L v b v3 v4 v v.length i=_:=round (by kernel_rfl) (Ad9 R L v b v3 v4 v v.length i)
  rw[hq,jG (by omega),A4 (by omega),show (11:Int)=((11:Nat):Int) from rfl,leN];rfl
 | n+1,v,b,v3,v4,i,hn,hi,hl=>by
  have hlt:i < v.length:=by omega
  have hq:oU R L v b v3 v4 v v.length i=_:=round (by kernel_rfl) (Ad9 R L v b v3 v4 v v.length i)
  rw[hq,lZ hlt,nn,tn,zO hlt,A1S,aV,zB (by omega),A9i n v b _ _ (i+1) (by omega) (by omega) hl,yH (d:=(0,(0,()))) hlt]
  simp only[Af,Aa,A69]
  cases i with
  | zero=>
   rw[show decide ((0:Int) < ((0:Nat):Int))=false from rfl]
   show _=some ((inB _ _ _&&(inB _ _ _&&(true&&A69 (Ab4 v 1) _)))&&_,())
   generalize A69 (Ab4 v 1) (v.drop 1)=z
   cases inB (v.getD 0 (0,(0,()))).1 1 9999<;>cases inB (v.getD 0 (0,(0,()))).2.1 0 999999<;>rfl
  | succ j=>
   rw[show decide ((0:Int) < ((j+1:Nat):Int))=true from Ad (by omega),cD (by omega),nn,tn,zO (by omega)]
   show _=some ((inB _ _ _&&(inB _ _ _&&(decide ((v.getD j (0,(0,()))).1 < (v.getD (j+1) (0,(0,()))).1)&&A69 (Ab4 v (j+1+1)) _)))&&_,())
   rw[A5x]
   simp only[Af]
   generalize A69 (Ab4 v (j+1+1)) (v.drop (j+1+1))=z
   cases inB (v.getD (j+1) (0,(0,()))).1 1 9999<;>cases inB (v.getD (j+1) (0,(0,()))).2.1 0 999999<;>cases decide ((v.getD (j+1) (0,(0,()))).1≤(v.getD j (0,(0,()))).1)<;>rfl
theorem BX2 (m:List yE) (hl:m.length≤4611686018427387904):An8 R m=some (A5W m,()):=by
 have hq:An8 R m=_:=call (Bf7 R L m)
 have hq0:AT7 R L m false m m.length 0=_:=round (by kernel_rfl) (A8j R L m false m m.length 0)
 have hq1:oU R L m false 0 (0,(0,())) m m.length 0=_:=round (by kernel_rfl) (Ad9 R L m false 0 (0,(0,())) m m.length 0)
 rw[hq,hq0.trans hq1.symm]
 exact A9i _ m false 0 _ 0 rfl (by omega) hl
def AO7 (r:xI):Bool:=inB r.1 0 19&&(decide (r.2.1.length≤32)&&((decide (r.1=0)|| decide (r.2.1.length=0))&&r.2.1.all fun n=>inB n 0 999999))
def mG (l:List xI):Bool:=decide (l.length≤2)&&l.all AO7
theorem AL5 {α:Type} (F:Int→Option (Bool × Unit)) (v:List α) (d:α) (p:α→Bool) (z:Bool)
  (stop:F (v.length:Nat)=some (z,()))
  (step:∀ (i:Nat),i < v.length→F i=cond (p (v.getD i d)) (F ((i+1:Nat):Int)) (some (false,()))):
  ∀ (n i:Nat),v.length - i=n→i≤v.length→F i=some ((v.drop i).all p&&z,())
 | 0,i,hn,hi=>by
  have:i=v.length:=by omega
  subst this
  rw[stop,A4 (Aj _)];rfl
 | n+1,i,hn,hi=>by
  rw[step i (by omega),yH (d:=d) (by omega),AN,AL5 F v d p z stop step n (i+1) (by omega) (by omega)]
  cases p (v.getD i d)<;>rfl
theorem B3Y (n:Nat):eqI (n:Int) 0=decide (n=0):=by
 rw[yU];exact AL.2 (by omega)
theorem gtO (n:Nat):decide ((0:Int) < (n:Int))=!decide (n=0):=by
 by_cases h:n=0
 ·rw[Ad h,Ae (by omega)];rfl
 ·rw[Ae h,Ad (by omega)];rfl
theorem Bk1 (r:xI) (hl:r.2.1.length≤32):yB R L r r false 0=some (r.2.1.all fun n=>inB n 0 999999,()):=by
 have h:=AL5 (fun i=>yB R L r r false i) r.2.1 (0:Int) (fun n=>inB n 0 999999) true (by
  have hq:yB R L r r false (r.2.1.length:Nat)=_:=round (by kernel_rfl) (jV R L r r false (r.2.1.length:Nat))
  show yB R L r r false (r.2.1.length:Nat)=_
  rw[hq,jG (Aj _)];rfl) (fun i hlt=>by
  have hq:yB R L r r false i=_:=round (by kernel_rfl) (jV R L r r false i)
  show yB R L r r false i=_
  rw[hq,lZ hlt,nn,tn,zO hlt,uB,zB (by omega)]
  simp only[Af,Aa]
  cases inB (r.2.1.getD i (0:Int)) 0 999999<;>rfl) _ 0 rfl (by omega)
 rw[Bs] at h
 exact h
theorem A1O (r:xI):nP R r=some (AO7 r,()):=by
 have hq:nP R r=_:=call (AU5 R L r)
 rw[hq,uB]
 unfold AO7
 simp only[Aa]
 rw[show (32:Int)=((32:Nat):Int) from rfl,gtN,gtO,yU]
 cases inB r.1 0 19 with
 | false=>rfl
 | true=>
  by_cases h2:r.2.1.length≤32
  ·rw[Ad h2,Bk1 r h2]
   cases decide (r.1=0)<;>cases decide (r.2.1.length=0)<;>rfl
  ·rw[Ae h2];rfl
theorem A5U (r:xI):gJ R r=some (AO7 r,()):=by
 have hq:gJ R r=_:=call (Av0 R L r)
 rw[hq,BK2]
 unfold AO7
 simp only[Aa]
 rw[show (32:Int)=((32:Nat):Int) from rfl,leN,B3Y,yU]
 cases inB r.1 0 19 with
 | false=>rfl
 | true=>
  by_cases h2:r.2.1.length≤32
  ·rw[Ad h2,iB r.2.1 _ (fun n=>inB n 0 999999) (by omega) (fun s _=>A3W s)]
   simp only[Af,Aa]
   cases decide (r.1=0)<;>cases decide (r.2.1.length=0)<;>cases (r.2.1.all fun n=>inB n 0 999999)<;>rfl
  ·rw[Ae h2];rfl
theorem A18 (l:List xI) (hl:l.length≤4611686018427387904):nE R l=some (mG l,()):=by
 have hq:nE R l=_:=call (Aa8 R L l)
 rw[hq]
 have h:=AL5 (fun i=>xG R L l false i) l (0,([],())) AO7 (decide (l.length≤2)) (by
  have hq:xG R L l false (l.length:Nat)=_:=round (by kernel_rfl) (iZ R L l false (l.length:Nat))
  show xG R L l false (l.length:Nat)=_
  rw[hq,jG (Aj _),show (2:Int)=((2:Nat):Int) from rfl,leN];rfl) (fun i hlt=>by
  have hq:xG R L l false i=_:=round (by kernel_rfl) (iZ R L l false i)
  show xG R L l false i=_
  rw[hq,lZ hlt,nn,tn,zO hlt,A1O,zB (by omega)]
  simp only[Af,Aa]
  cases AO7 (l.getD i (0,([],())))<;>rfl) _ 0 rfl (by omega)
 unfold mG
 rw[B7]
 exact h
theorem A14 (l:List xI) (hl:l.length≤4611686018427387904):nF R l=some (mG l,()):=by
 have hq:nF R l=_:=call (Ab7 R L l)
 rw[hq,show (2:Int)=((2:Nat):Int) from rfl,leN,eD l _ AO7 hl (fun s _=>by rw[Ak1,A5U];rfl)]
 unfold mG
 cases decide (l.length≤2)<;>rfl
def Bw5 (o:Ag8):Bool:=inB o.1 1 6&&(inB o.2.1 1 9999&&cond (decide (o.1=1)|| decide (o.1=3)) (decide (o.2.2.1=0)) (cond (decide (o.1=6)) (inB o.2.2.1 1 4) (inB o.2.2.1 0 999999)))
def A6n (t:pI):Bool:=inB (t.1.length:Int) 1 4&&t.1.all Bw5
def aY (l:List pI):Bool:=inB (l.length:Int) 1 2&&l.all A6n
theorem Bm9 (o:Ag8):A0b R o=some (Bw5 o,()):=by
 have hq:A0b R o=_:=call (Bp0 R L o)
 rw[hq,uB,uB]
 simp only[Aa,uB,yU]
 unfold Bw5
 cases inB o.1 1 6<;>cases inB o.2.1 1 9999<;>cases decide (o.1=1)<;>cases decide (o.1=3)<;>cases decide (o.1=6)<;>rfl
theorem BJ0 (k:Int):AX3 R k=some (decide (k=1)|| decide (k=3),()):=by
 have hq:AX3 R k=_:=call (BF8 R L k)
 rw[hq,yU,yU]
 cases decide (k=1)<;>rfl
theorem Bo3 (o:Ag8):A0a R o=some (Bw5 o,()):=by
 have hq:A0a R o=_:=call (Bj5 R L o)
 rw[hq,uZ,A1S]
 simp only[Aa,uZ,BJ0,aV,yU]
 unfold Bw5
 cases inB o.1 1 6<;>cases inB o.2.1 1 9999<;>cases decide (o.1=1)<;>cases decide (o.1=3)<;>cases decide (o.1=6)<;>rfl
theorem BM2 (t:pI) (hl:t.1.length≤4611686018427387904):AX0 R t=some (A6n t,()):=by
 have hq:AX0 R t=_:=call (BN6 R L t)
 rw[hq]
 have h:=AL5 (fun i=>oO R L t t false i) t.1 (0,(0,(0,()))) Bw5 (inB (t.1.length:Int) 1 4) (by
  have hq:oO R L t t false (t.1.length:Nat)=_:=round (by kernel_rfl) (Au3 R L t t false (t.1.length:Nat))
  show oO R L t t false (t.1.length:Nat)=_
  rw[hq,jG (Aj _),uB];rfl) (fun i hlt=>by
  have hq:oO R L t t false i=_:=round (by kernel_rfl) (Au3 R L t t false i)
  show oO R L t t false i=_
  rw[hq,lZ hlt,nn,tn,zO hlt,Bm9,zB (by omega)]
  simp only[Af,Aa]
  cases Bw5 (t.1.getD i (0,(0,(0,()))))<;>rfl) _ 0 rfl (by omega)
 unfold A6n
 rw[B7]
 exact h
theorem BY8 (t:pI) (hl:t.1.length≤4611686018427387904):Am9 R t=some (A6n t,()):=by
 have hq:Am9 R t=_:=call (Bf5 R L t)
 rw[hq,uZ,Ai7 t.1 _ Bw5 hl (fun s _=>by rw[BR5,Bo3];rfl)]
 unfold A6n
 simp only[Aa]
 cases inB (t.1.length:Int) 1 4<;>rfl
theorem A8p (l:List pI) (hb:∀ t ∈ l,t.1.length≤4611686018427387904):AI7 R l=some (aY l,()):=by
 have hq:AI7 R l=_:=call (A71 R L l)
 rw[hq,uB]
 simp only[Aa]
 unfold aY
 cases h:inB (l.length:Int) 1 2 with
 | false=>cases decide ((4096:Int) < (l.length:Int))<;>rfl
 | true=>
  have hbd:=xR h
  rw[show decide ((4096:Int) < (l.length:Int))=false from Ae (by omega)]
  have h:=AL5 (fun i=>qZ R L l false i) l ([],()) A6n true (by
   have hq:qZ R L l false (l.length:Nat)=_:=round (by kernel_rfl) (Al0 R L l false (l.length:Nat))
   show qZ R L l false (l.length:Nat)=_
   rw[hq,jG (Aj _)];rfl) (fun i hlt=>by
   have hq:qZ R L l false i=_:=round (by kernel_rfl) (Al0 R L l false i)
   show qZ R L l false i=_
   rw[hq,lZ hlt,nn,tn,zO hlt,BM2 _ (hb _ (xK hlt)),zB (by omega)]
   simp only[Af,Aa]
   cases A6n (l.getD i ([],()))<;>rfl) _ 0 rfl (by omega)
  rw[Bs] at h
  exact h
theorem A7o (l:List pI) (hb:∀ t ∈ l,t.1.length≤4611686018427387904):AH9 R l=some (aY l,()):=by
 have hq:AH9 R l=_:=call (A8t R L l)
 rw[hq,uZ]
 simp only[Aa]
 unfold aY
 cases h:inB (l.length:Int) 1 2 with
 | false=>rfl
 | true=>
  have hbd:=xR h
  rw[Ae5 l _ A6n (by omega) (fun s hs=>by rw[BD7,BY8 _ (hb s hs)];rfl)]
  rfl
end Go.Rf.S

end
section
namespace Go.Rf.S
set_option maxRecDepth 100000
def NN (l:List Int):Prop:=∀ x ∈ l,0≤x
theorem NN.cl {l:List Int} (h:NN l):∃ m:List Nat,l=cl m:=⟨l.map Am,by
 unfold Go.Rf.cl
 rw[Bb]
 have:∀ x ∈ l,((fun x:Nat=>(x:Int)) ∘ Am) x=id x:=fun x hx=>Int.toNat_of_nonneg (h x hx)
 rw[Bp this,List.map_id]⟩
theorem NN.rep (n:Nat):NN (Ab n (0:Int)):=fun x hx=>by rw[(List.mem_replicate.1 hx).2];decide
def fil (l:List Int) (n:Nat):List Int:=l++Ab (n - l.length) 0
abbrev DB:Type:=Int × (Int × (Int × Unit))
abbrev DR:Type:=Int × (List Int × Unit)
abbrev DE:Type:=List Int × ((List Int × (List DB × (List (List DB) × Unit))) × Unit)
def b3 (b:DB):List Int:=[b.1,b.2.1,b.2.2.1]
def B4C (l:List DB):List Int:=(l.length:Int) :: l.flatMap b3
def B4z (r:DR):List Int:=[r.1,(r.2.1.length:Int)]++r.2.1
def B4g (l:List DB):List UInt8:=(fil (B4C l) 7).flatMap itx
def stI (e:DE) (rs:List DR):List Int:=(((e.2.1.1++B4C e.2.1.2.1)++e.1)++[(rs.length:Int)])++rs.flatMap B4z
def B4e (e:DE) (rs:List DR):List UInt8:=(fil (stI e rs) 140).flatMap itx
end Go.Rf.S

end
section
namespace Go.Rf.S
set_option maxRecDepth 100000
noncomputable def B38 (key:List UInt8) (side epoch i:Nat) (l:List DB):List UInt8:=B0i key 2 (16 * side+1+i) epoch (B4g l)
noncomputable def B3X (key:List UInt8) (side epoch:Nat) (e:DE) (rs:List DR):List (List UInt8):=[B0i key 1 (16 * side) epoch (B4e e rs)]++e.2.1.2.2.1.mapIdx (B38 key side epoch)
end Go.Rf.S

end
section
namespace Go.Rf.S
set_option maxRecDepth 100000
def A5X (n:Int):Bool:=inB n 0 7
theorem Bo6 (n:Int):gF R n=some (A5X n,()):=by
 rw[show gF R n=_ from call (A3C R L n),uZ];rfl
theorem BG9 (l:List Int) (hl:l.length≤4096):tZ R l (.mk BL0 .nil)=some (l.all A5X,()):=
 iB l _ A5X (by omega) fun s _=>by rw[A7C,Bo6];rfl
theorem Bl5 (l:List Int) (hl:l.length≤4096):bS R l=some (l.all A5X,()):=by
 have h:∀ (n i:Nat),l.length - i=n→i≤l.length→oK R L l (i:Int)=some ((l.drop i).all A5X,()):=by
  intro n
  induction n with
  | zero=>
   intro i hn hi
   have:i=l.length:=by omega
   subst this
   rw[show oK R L l (l.length:Nat)=_ from round (by kernel_rfl) (AQ4 R L l (l.length:Nat)),AM]
   simp (disch:=omega) only[st,dF,List.all_nil]
  | succ n ih=>
   intro i hn hi
   rw[show oK R L l (i:Nat)=_ from round (by kernel_rfl) (AQ4 R L l (i:Nat)),zB (by omega),ih (i+1) (by omega) (by omega),yH (d:=0) (show i < l.length by omega),AN]
   simp (disch:=omega) only[st,dT,uB]
   unfold A5X
   cases inB (l.getD i 0) 0 7<;>rfl
 rw[show bS R l=_ from call (A38 R L l)]
 exact h l.length 0 rfl (An _)
def B4c (l:List Int):DE:=(Ab 11 0,((l,([],(Ab 15 [],()))),()))
end Go.Rf.S

end
section
namespace Go.Rf.S
set_option maxRecDepth 100000
end Go.Rf.S

end
section
namespace Go.Rf.S
set_option maxRecDepth 100000
def B4o (t:pI):List Int:=(t.1.length:Int) :: t.1.flatMap b3
def B4y (l:List pI) (ds:List Int):List Int:=(ds++[(l.length:Int)])++l.flatMap B4o
def B4m (l:List pI) (ds:List Int):List UInt8:=(fil (B4y l ds) 68).flatMap itx
def B2p (a b:List UInt8):List UInt8:=dig (([2]++a)++b)
end Go.Rf.S

end
section
namespace Go.Rf.S
set_option maxRecDepth 100000
def B4V:List UInt8:=[98,101,103,105,110]
noncomputable def B4D (key:List UInt8) (l:List Int):List (List UInt8):=B3X key 0 0 (B4c l) []
noncomputable def newS (key:List UInt8) (l:List Int):uO:=(key,((0,(0,(0,(0,(dig B4V,(dig B4V,(A44 (B4D key l),()))))))),((B4D key l++Ab 24 [],([],())),(true,(false,())))))
end Go.Rf.S

end
section
namespace Go.Rf.S
set_option maxRecDepth 100000
end Go.Rf.S

end
section
namespace Go.Rf.S
set_option maxRecDepth 100000
structure SO (x:uO):Prop where
 k:x.1.length=32
 c0:0≤x.2.1.1
 c1:x.2.1.1≤1000000
 sd:x.2.1.2.1=0∨x.2.1.2.1=1
 n0:x.2.1.1≤x.2.1.2.2.1
 n1:x.2.1.2.2.1≤x.2.1.1+4
 n2:x.2.1.2.2.1≤1000000
 b0:0≤x.2.1.2.2.2.1
 b1:x.2.1.2.2.2.1≤1000000
 t1:x.2.1.2.2.2.2.1.length=32
 t2:x.2.1.2.2.2.2.2.1.length=32
 t3:x.2.1.2.2.2.2.2.2.1.length=32
 dl:x.2.2.1.1.length=40
 ds:∀ s ∈ x.2.2.1.1,s.length≤700
 u:x.2.2.1.2.1=[]
theorem BB7 {s:List UInt8} (h:A5M s=true):s.length=32:=by simpa[A5M] using h
theorem SO.of {x:uO} (h:AM5 x=true):SO x:=by
 unfold AM5 A6b At0 Az8 at h
 simp only[Bool.and_eq_true,decide_eq_true_eq] at h
 obtain⟨h1,⟨r1,r2,r3,r4,r5,r6,r7,r8⟩,⟨d1,d2,d3,d4⟩,h4,h5⟩:=h
 have a1:=xR r1
 have a2:=xR r2
 have a3:=xR r3
 have a4:=xR r4
 exact⟨BB7 h1,a1.1,a1.2,by omega,a4.1,by omega,by omega,a3.1,a3.2,BB7 r5,BB7 r6,BB7 r7,d1,fun s hs=>by simpa[Bn1] using List.all_eq_true.1 d3 s hs,List.length_eq_zero_iff.1 h4⟩
noncomputable def B41 (key:List UInt8) (C B:Nat) (l:List pI) (ds:List Int):List UInt8:=ub (lit B 4)++B0i key 3 (32+(C+1) % 8) (C+1+1048576 * B) (B4m l ds)
noncomputable def nT (x:uO) (l:List pI) (ds:List Int):List UInt8:=B41 x.1 x.2.1.2.2.1.toNat x.2.1.2.2.2.1.toNat l ds
def nA (x:uO):Nat:=32+(x.2.1.2.2.1.toNat+1) % 8
noncomputable def nS (x:uO) (l:List pI) (ds:List Int):List (List UInt8):=x.2.2.1.1.set (nA x) (nT x l ds)
end Go.Rf.S

end
section
namespace Go.Rf.S
set_option maxRecDepth 100000
end Go.Rf.S

end
section
namespace Go.Rf.S
set_option maxRecDepth 100000
def BR9 (t:List UInt8):Nat→Nat→List Int
 | 0,_=>[]
 | c+1,k=>((wLE t (4 * k):Nat):Int) :: BR9 t c (k+1)
theorem A46 (t:List UInt8):∀ c k,(BR9 t c k).length=c
 | 0,_=>rfl
 | c+1,k=>by show (_ :: _:List Int).length=_;rw[Ak,A46 t c]
def wds (t:List UInt8):List Int:=BR9 t (t.length / 4) 0
theorem BT5 (t:List UInt8):(wds t).length=t.length / 4:=A46 t _ _
theorem Bz5 (t:List UInt8) (n:Nat) (ht:t.length=4 * n) (hn:n≤262144):∀ (c k:Nat) (acc:List Int),k+c=n→acc.length=k→nU R L t acc ((4 * k:Nat):Int)=some (acc++BR9 t c k,())
 | 0,k,acc,hk,ha=>by
  rw[show nU R L t acc ((4 * k:Nat):Int)=_ from round (by kernel_rfl) (Aa9 R L t acc ((4 * k:Nat):Int)),jG (by omega)]
  show some (acc,())=some (acc++[],());rw[A5]
 | c+1,k,acc,hk,ha=>by
  have hb:=Bz4 t (4 * k)
  have e:=Aw5 (t.drop (4 * k)) (by rw[Au];omega)
  rw[A9X] at e
  rw[show nU R L t acc ((4 * k:Nat):Int)=_ from round (by kernel_rfl) (Aa9 R L t acc ((4 * k:Nat):Int)),lZ (by omega),A9,show Ac .i64 (((4 * k:Nat):Int)+4)=((4 * (k+1):Nat):Int) by rw[zI (by omega) (by omega)];omega]
  simp (disch:=omega) only[st,e]
  rw[Bz5 t n ht hn c (k+1) _ (by omega) (by rw[Ai,ha];rfl),Az]
  rfl
theorem BU3 (t:List UInt8) (ht:t.length≤1048576):∀ (c k:Nat) (acc:List Int),k+c=t.length / 4→acc.length=k→oI R L t acc ((4 * k:Nat):Int)=some (acc++BR9 t c k,(decide (t.length % 4=0),()))
 | 0,k,acc,hk,ha=>by
  rw[show oI R L t acc ((4 * k:Nat):Int)=_ from round (by kernel_rfl) (AS7 R L t acc ((4 * k:Nat):Int)),show Ac .i64 (((4 * k:Nat):Int)+4)=((4 * (k+1):Nat):Int) by rw[zI (by omega) (by omega)];omega,
   dF (show ¬ ((4 * (k+1):Nat):Int)≤(t.length:Int) by omega),show A7 (t.length:Int) 4=((t.length % 4:Nat):Int) from rfl,B3Y]
  show some (acc,_)=some (acc++[],_);rw[A5]
 | c+1,k,acc,hk,ha=>by
  have e:=A3f t (4 * k) (by omega) (by omega)
  rw[show oI R L t acc ((4 * k:Nat):Int)=_ from round (by kernel_rfl) (AS7 R L t acc ((4 * k:Nat):Int)),show Ac .i64 (((4 * k:Nat):Int)+4)=((4 * (k+1):Nat):Int) by rw[zI (by omega) (by omega)];omega,
   dT (show ((4 * (k+1):Nat):Int)≤(t.length:Int) by omega)]
  simp (disch:=omega) only[st,e]
  rw[BU3 t ht c (k+1) _ (by omega) (by rw[Ai,ha];rfl),Az]
  rfl
abbrev PR:Type:=List Int × (Int × (Bool × Unit))
abbrev SR:Type:=List Int × (Int × Unit)
def RP (x:PR) (o:LO):Prop:=x.1.length≤1048576∧((o=none∧x.2.2.1=true)∨(x.2.2.1=false∧∃ k:Nat,x.2.1=(k:Int)∧k≤x.1.length∧o=some (x.1.drop k)))
def RS (x:SR) (s:SO1):Prop:=x.1.length≤1048576∧((s.2=false∧∃ k:Nat,x.2.1=(k:Int)∧k≤x.1.length∧s.1=x.1.drop k)∨(s.2=true∧s.1=[]∧x.2.1=(x.1.length:Int)+1))
def po (t:List UInt8) (n:Nat):LO:=if t.length=4 * n then some (wds t) else none
def so (t:List UInt8) (n:Nat):SO1:=if t.length=4 * n then (wds t,false) else ([],true)
theorem pso (t:List UInt8) (n:Nat):Sy (po t n) (so t n)∨(po t n=none∧(so t n).2=true):=by
 unfold po so
 by_cases h:t.length=4 * n
 ·rw[A1 h,A1 h];exact .inl ⟨rfl,rfl⟩
 ·rw[A3 h,A3 h];exact .inr ⟨rfl,rfl⟩
theorem A94 (t:List UInt8) (n:Nat) (hn:n≤1000):∃ x,RP x (po t n)∧kU R t (n:Int)=some (x,()):=by
 rw[show kU R t (n:Int)=_ from call (A5Q R L t (n:Int)),show Ac .i64 (4 * (n:Int))=((4 * n:Nat):Int) by rw[zI (by omega) (by omega)];omega]
 unfold po
 by_cases h:t.length=4 * n
 ·have e:AB5 R t=some (wds t,()):=by
   have:=Bz5 t n h (by omega) n 0 [] (by omega) rfl
   rw[show AB5 R t=_ from call (A5A R L t)]
   unfold wds
   rw[show t.length / 4=n by omega]
   exact this
  rw[A1 h]
  simp (disch:=omega) only[st,e,Ap]
  refine⟨_,⟨?_,.inr ⟨rfl,0,rfl,An _,rfl⟩⟩,rfl⟩
  show (wds t).length≤_
  rw[BT5];omega
 ·rw[A3 h]
  simp (disch:=omega) only[st,A8]
  exact⟨_,⟨An _,.inl ⟨rfl,rfl⟩⟩,rfl⟩
theorem A92 (t:List UInt8) (n:Nat) (hn:n≤1000) (ht:t.length≤1048576):∃ x,RS x (so t n)∧gE R t (n:Int)=some (x,()):=by
 have e:bQ R t=some (wds t,(decide (t.length % 4=0),())):=by
  have:=BU3 t ht (t.length / 4) 0 [] (by omega) rfl
  rw[show bQ R t=_ from call (A3X R L t)]
  exact this
 have hw:=BT5 t
 rw[show gE R t (n:Int)=_ from call (A7p R L t (n:Int)),e]
 unfold so
 by_cases h:t.length=4 * n
 ·rw[A1 h,dT (show t.length % 4=0 by omega)]
  simp (disch:=omega) only[st,Ap]
  exact⟨_,⟨by show (wds t).length≤_;omega,.inl ⟨rfl,0,rfl,An _,rfl⟩⟩,rfl⟩
 ·rw[A3 h]
  by_cases h4:t.length % 4=0
  ·rw[dT h4]
   simp (disch:=omega) only[st,Ap,A8]
   exact⟨_,⟨An _,.inr ⟨rfl,rfl,rfl⟩⟩,rfl⟩
  ·rw[dF h4]
   simp (disch:=omega) only[st,A8]
   exact⟨_,⟨An _,.inr ⟨rfl,rfl,rfl⟩⟩,rfl⟩
theorem Bi4 (b:Int) (hb:0≤b) (o:LO):0≤(pN b o).1∧(pN b o).1≤b:=by
 unfold pN
 split
 ·split
  ·rename_i h;exact xR h
  ·exact⟨B3 _,hb⟩
 ·exact⟨B3 _,hb⟩
theorem Bu4 (b:Int) (hb:0≤b) (s:SO1):0≤(sC b s).1∧(sC b s).1≤b:=by
 unfold sC
 split
 ·rename_i h;exact xR h
 ·exact⟨B3 _,hb⟩
theorem Ax7 {x:PR} {o:LO} (h:RP x o) (b:Int):∃ y,RP y (pN b o).2∧xC R x 0 b=some ((pN b o).1,(y,())):=by
 obtain⟨l,a,bad,u⟩:=x
 obtain⟨hl,h⟩:=h
 have hl:l.length≤1048576:=hl
 rw[show xC R (l,(a,(bad,u))) 0 b=_ from call (Af3 R L _ 0 b)]
 rcases h with ⟨rfl,h⟩| ⟨h,k,hk,hkl,rfl⟩
 ·have h:bad=true:=h
  subst h
  exact⟨_,⟨hl,.inl ⟨rfl,rfl⟩⟩,rfl⟩
 ·have h:bad=false:=h
  subst h
  have hk:a=(k:Int):=hk
  subst hk
  have hkl:k≤l.length:=hkl
  show ∃ y,RP y (pN b (some (l.drop k))).2∧_=some ((pN b (some (l.drop k))).1,(y,()))
  by_cases he:k=l.length
  ·subst he
   rw[AM]
   simp (disch:=omega) only[st]
   refine⟨_,?_,rfl⟩
   exact⟨hl,.inl ⟨rfl,rfl⟩⟩
  ·have hlt:k < l.length:=by omega
   rw[yH (d:=0) hlt,show Ac .i64 (Ac .i64 ((k:Int)+1) - 1)=(k:Int) by rw[zB (by omega),cD (by omega)],zB (by omega),uZ]
   simp (disch:=omega) only[st]
   cases hx:inB (l.getD k 0) 0 b with
   | true=>
    have e:pN b (some (l.getD k 0 :: l.drop (k+1)))=(l.getD k 0,some (l.drop (k+1))):=by
     show (if inR (l.getD k 0) 0 b=true then _ else _)=_
     rw[A1 (show inR (l.getD k 0) 0 b=true from hx)]
    rw[e]
    refine⟨_,?_,rfl⟩
    exact⟨hl,.inr ⟨rfl,k+1,rfl,hlt,rfl⟩⟩
   | false=>
    have e:pN b (some (l.getD k 0 :: l.drop (k+1)))=(0,none):=by
     show (if inR (l.getD k 0) 0 b=true then _ else _)=_
     rw[show inR (l.getD k 0) 0 b=false from hx];rfl
    rw[e]
    refine⟨_,?_,rfl⟩
    exact⟨hl,.inl ⟨rfl,rfl⟩⟩
theorem AT0 {x:SR} {s:SO1} (h:RS x s):∃ y,RS y (sN s).2∧zW R x=some ((sN s).1,(y,())):=by
 obtain⟨l,a,u⟩:=x
 obtain⟨v,ov⟩:=s
 obtain⟨hl,h⟩:=h
 have hl:l.length≤1048576:=hl
 rw[show zW R (l,(a,u))=_ from call (AP5 R L _)]
 rcases h with ⟨h,k,hk,hkl,hv⟩| ⟨h,hv,hk⟩
 ·have h:ov=false:=h
  subst h
  have hk:a=(k:Int):=hk
  subst hk
  have hv:v=l.drop k:=hv
  subst hv
  have hkl:k≤l.length:=hkl
  by_cases he:k=l.length
  ·subst he
   rw[AM,dT (show ((l.length:Nat):Int)≤((l.length:Nat):Int) by omega)]
   exact⟨(l,(_,u)),⟨hl,.inl ⟨rfl,l.length,rfl,Aj _,(AM ..).symm⟩⟩,rfl⟩
  ·have hlt:k < l.length:=by omega
   rw[yH (d:=0) hlt,dF (show ¬ ((l.length:Nat):Int)≤((k:Nat):Int) by omega),show Ac .i64 (Ac .i64 ((k:Int)+1) - 1)=(k:Int) by rw[zB (by omega),cD (by omega)],zB (by omega)]
   simp (disch:=omega) only[st]
   refine⟨_,?_,rfl⟩
   exact⟨hl,.inl ⟨rfl,k+1,rfl,hlt,rfl⟩⟩
 ·have h:ov=true:=h
  subst h
  have hv:v=[]:=hv
  subst hv
  have hk:a=(l.length:Int)+1:=hk
  subst hk
  rw[dT (show ((l.length:Nat):Int)≤((l.length:Nat):Int)+1 by omega)]
  exact⟨(l,(_,u)),⟨hl,.inr ⟨rfl,rfl,rfl⟩⟩,rfl⟩
theorem A4m {x:SR} {s:SO1} (h:RS x s) (b:Int):∃ y,RS y (sC b s).2∧xE R x b=some ((sC b s).1,(y,())):=by
 obtain⟨y,hy,e⟩:=AT0 h
 rw[show xE R x b=_ from call (AJ3 R L x b),e]
 simp only[Aa,uB]
 unfold sC
 cases hx:inB (sN s).1 0 b with
 | true=>
  rw[A1 (show inR (sN s).1 0 b=true from hx)]
  exact⟨y,hy,rfl⟩
 | false=>
  rw[show inR (sN s).1 0 b=false from hx,A3 Bool.false_ne_true,zI (by have:=hy.1;omega) (by have:=hy.1;omega)]
  refine⟨_,?_,rfl⟩
  exact⟨hy.1,.inr ⟨rfl,rfl,rfl⟩⟩
theorem A6L {b:Int} {n:Nat} (hn:n≤1000):∀ (c i:Nat) {x:PR} {o:LO} (acc:List Int),i+c=n→RP x o→acc.length=i→∃ y,RP y (pS b c o).2∧vD R L x 0 b acc (n:Int) (i:Int)=some (acc++(pS b c o).1,(y,()))
 | 0,i,x,o,acc,hi,h,ha=>by
  rw[show vD R L x 0 b acc (n:Int) (i:Int)=_ from round (by kernel_rfl) (gI R L x 0 b acc (n:Int) (i:Int)),jG (by omega)]
  refine⟨x,h,?_⟩
  show some (acc,_)=some (acc++[],_);rw[A5]
 | c+1,i,x,o,acc,hi,h,ha=>by
  obtain⟨y,hy,e⟩:=Ax7 h b
  obtain⟨z,hz,e2⟩:=A6L hn c (i+1) (acc++[(pN b o).1]) (by omega) hy (by rw[Ai,ha];rfl)
  refine⟨z,hz,?_⟩
  rw[show vD R L x 0 b acc (n:Int) (i:Int)=_ from round (by kernel_rfl) (gI R L x 0 b acc (n:Int) (i:Int)),lZ (by omega),e,zB (by omega)]
  simp (disch:=omega) only[st,e2]
  rw[Az];rfl
theorem B04 {b:Int} {n:Nat} (hn:n≤1000) {x:PR} {o:LO} (h:RP x o):∃ y,RP y (pS b n o).2∧wG R x (n:Int) 0 b=some ((pS b n o).1,(y,())):=by
 obtain⟨y,hy,e⟩:=A6L (b:=b) hn n 0 [] (by omega) h rfl
 exact⟨y,hy,AJ (call (AP8 R L x (n:Int) 0 b):wG R x (n:Int) 0 b=_) e⟩
theorem Bx2 {n:Nat} (hn:n≤1000):∀ (c i:Nat) {x:PR} {o:LO} (acc:List TB),i+c=n→RP x o→acc.length=i→∃ y,RP y (pB c o).2∧vK R L x acc (n:Int) (i:Int)=some (acc++(pB c o).1,(y,()))
 | 0,i,x,o,acc,hi,h,ha=>by
  rw[show vK R L x acc (n:Int) (i:Int)=_ from round (by kernel_rfl) (fK R L x acc (n:Int) (i:Int)),jG (by omega)]
  refine⟨x,h,?_⟩
  show some (acc,_)=some (acc++[],_);rw[A5]
 | c+1,i,x,o,acc,hi,h,ha=>by
  obtain⟨y1,h1,e1⟩:=Ax7 h 11
  obtain⟨y2,h2,e2⟩:=Ax7 h1 7
  obtain⟨y3,h3,e3⟩:=Ax7 h2 999999
  obtain⟨z,hz,e4⟩:=Bx2 hn c (i+1) (acc++[(pB1 o).1]) (by omega) h3 (by rw[Ai,ha];rfl)
  refine⟨z,hz,?_⟩
  rw[show vK R L x acc (n:Int) (i:Int)=_ from round (by kernel_rfl) (fK R L x acc (n:Int) (i:Int)),lZ (by omega),e1,zB (by omega)]
  simp (disch:=omega) only[st,e2,e3]
  refine AJ e4 ?_
  rw[Az];rfl
theorem Bu9 (b:Nat) (hb:b≤1000) {x:PR} {o:LO} (h:RP x o):∃ y,RP y (pB (pN (b:Int) o).1.toNat (pN (b:Int) o).2).2∧vQ R x (b:Int)=some ((pB (pN (b:Int) o).1.toNat (pN (b:Int) o).2).1,(y,())):=by
 obtain⟨y1,h1,e1⟩:=Ax7 h (b:Int)
 obtain⟨n,hn⟩:=Int.eq_ofNat_of_zero_le (Bi4 (b:Int) (by omega) o).1
 have hb2:=(Bi4 (b:Int) (by omega) o).2
 obtain⟨z,hz,e2⟩:=Bx2 (n:=n) (by omega) n 0 [] (by omega) h1 rfl
 rw[show vQ R x (b:Int)=_ from call (AS1 R L x (b:Int)),e1]
 simp only[Aa]
 rw[hn,Int.toNat_natCast]
 exact⟨z,hz,e2⟩
theorem Bx0 {x:PR} {o:LO} (h:RP x o):pQ R x=some (pE o,(x,())):=by
 obtain⟨l,a,bad,u⟩:=x
 obtain⟨hl,h⟩:=h
 have hl:l.length≤1048576:=hl
 rw[show pQ R (l,(a,(bad,u)))=_ from call (Ae9 R L _)]
 rcases h with ⟨rfl,h⟩| ⟨h,k,hk,hkl,rfl⟩
 ·have h:bad=true:=h
  subst h;rfl
 ·have h:bad=false:=h
  subst h
  have hk:a=(k:Int):=hk
  subst hk
  have hkl:k≤l.length:=hkl
  show cond (!false) (cond (zA (k:Int)) (cond (A' l.length l.length) (cond (A' (k:Int).toNat l.length) ((tZ R (List.drop (k:Int).toNat (List.take l.length l)) _).bind fun r0=>_) none) none) none) _=_
  rw[A9,iB (l.drop (k:Int).toNat) _ (fun n=>decide (n=0)) (by rw[Au];omega) (fun s _=>by
   rw[AP0,show kS R s=_ from call (AR3 R L s)];rfl)]
  simp (disch:=omega) only[st,A8]
  rfl
theorem Bw7 {x:SR} {s:SO1} (h:RS x s):rF R x=some (sE s,(x,())):=by
 obtain⟨l,a,u⟩:=x
 obtain⟨v,ov⟩:=s
 obtain⟨hl,h⟩:=h
 have hl:l.length≤1048576:=hl
 rw[show rF R (l,(a,u))=_ from call (AP7 R L _)]
 have hm:∀ (n i k:Nat),l.length - i=n→i≤l.length→k≤l.length→xF R L (l,((k:Int),u)) (i:Int)=some ((l.drop i).all fun n=>decide (n=0),((l,((k:Int),u)),())):=by
  intro n
  induction n with
  | zero=>
   intro i k hn hi hk
   rw[show xF R L (l,((k:Int),u)) (i:Int)=_ from round (by kernel_rfl) (nM R L _ (i:Int)),jG (by show l.length≤i;omega),A4 (by omega)]
   show some (decide ((k:Int)≤(l.length:Int)),_)=_
   rw[dT (show (k:Int)≤(l.length:Int) by omega)];rfl
  | succ n ih=>
   intro i k hn hi hk
   have hlt:i < l.length:=by omega
   rw[show xF R L (l,((k:Int),u)) (i:Int)=_ from round (by kernel_rfl) (nM R L _ (i:Int)),lZ (show i < l.length from hlt),yH (d:=0) hlt,AN,zB (by omega)]
   simp (disch:=omega) only[st]
   rw[ih (i+1) k (by omega) (by omega) hk,yU]
   cases decide (l.getD i 0=0)<;>rfl
 rcases h with ⟨h,k,hk,hkl,hv⟩| ⟨h,hv,hk⟩
 ·have h:ov=false:=h
  subst h
  have hk:a=(k:Int):=hk
  subst hk
  have hv:v=l.drop k:=hv
  subst hv
  refine (hm _ k k rfl hkl hkl).trans ?_
  unfold sE
  rw[A8,Bs]
 ·have h:ov=true:=h
  subst h
  have hk:a=(l.length:Int)+1:=hk
  subst hk
  show xF R L (l,((l.length:Int)+1,u)) ((l.length:Int)+1)=_
  rw[show xF R L (l,((l.length:Int)+1,u)) ((l.length:Int)+1)=_ from round (by kernel_rfl) (nM R L _ _),dF (show ¬ ((l.length:Int)+1) < (l.length:Int) by omega)]
  show some (decide ((l.length:Int)+1≤(l.length:Int)),_)=_
  rw[dF (show ¬ ((l.length:Int)+1)≤(l.length:Int) by omega),A4T rfl]
end Go.Rf.S

end
