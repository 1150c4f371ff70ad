/- What the program computes, in plain words: part 5. No condition. -/
import Derived.Test.YtcikhcfofnlegaaGreatPla1
open List renaming replicate->Aa,length_cons->Ad,length_append->Ae,length_nil->Af,getD_eq_getElem?_getD->Ag,length_replicate->An,drop_zero->Ap,length_map->At,append_assoc->Az,length_drop->A1,length_set->A5,length_take->A6,map->A9,append_nil->AE,length_singleton->AF,getElem?_set->AG,flatMap_cons->AH,getElem?_append_right->AI,map_append->AK,getElem?_drop->AL,take_length->AN,mem_cons->AO,nil_append->AS,replicate_succ->AU,replicate_zero->AV,length_mapIdx->A',mem_replicate->Ba,getElem?_append_left->Bb,getElem?_map->Bc,getElem?_eq_getElem->Be,cons_append->Bf,map_map->Bi,mem_mapIdx->Bn,mem_append->Bo,drop_eq_nil_iff->Bs,mem_cons_of_mem->Bt,getD_cons_zero->Bx,getD_cons_succ->By,map_congr_left->Bz,map_cons->B1,mem_cons_self->B5,mem_singleton->B6,not_mem_nil->B9,drop_length->BB,sum_cons->BE
open Go.IntKind renaming wrap->Ab,bits->Am,wrap->AC
open Option renaming bind_some->Ac,bind_eq_some_iff->As
open _root_ renaming cond_true->Ah,decide_eq_true->Ai,cond_false->Aj,decide_eq_false->Ak,decide_true->A2,if_neg->A4,if_pos->A7
open Bool renaming not_true->Al,not_false->A8
open Nat renaming le_refl->Ao,zero_le->Ar,min_eq_left->Au,lt_of_lt_of_le->Av,mod_eq_of_lt->Aw,mod_lt->Ay,le_trans->A3,pow_le_pow_right->AB,div_div_eq_div_mul->AD,pow_zero->AJ,mul_mod_mul_right->AM,div_one->AP,pow_add->AR,div_le_self->AT,two_pow_add_eq_or_of_lt->AW,mod_mul_right_div_self->AY,lt_of_le_of_lt->AZ,ble_eq->Bh,zero_add->Bj,mul_comm->Bk,sub_self->Bl,div_add_mod->Bm,mod_mul_right_mod->Bp,mul_le_mul->Br,mul_add->Bu,mul_le_mul_right->Bv,mul_le_mul_left->Bw,one_le_two_pow->B3,and_one_is_mod->B4,ble->B7,lt_trans->B8,min_le_right->BA,two_pow_pos->BC,blt->BD
open Int renaming toNat->Aq,tmod->AA,fdiv->AX,tdiv->Bg
open UInt8 renaming ofNat->Ax,toNat->Bq,toNat_ofNat'->B2
open Min renaming min->A0
open Eq renaming trans->AQ
set_option linter.unusedVariables false
set_option linter.unusedSimpArgs false
section
namespace Go.Rf.S
set_option maxRecDepth 100000
theorem A7J {k h:List Nat} {t:List UInt8} (hh:Wd 8 h):Wd 8 (A6n k h t):=by
 have:∀ (v:List Nat) (n i:Nat) (x:List Nat),Wd 8 x→Wd 8 (xO (stD v) n i x):=by
  intro v n
  induction n with
  | zero=>intro i x hx;exact hx
  | succ n ih=>intro i x hx;exact ih (i+1) _ (BB5 hx)
 exact this _ _ _ _ hh
theorem A9P {k:List Nat}:∀ {n:Nat} {h:List Nat} {t:List UInt8},Wd 8 h→t.length < 64 * (n+1)→Wd 8 (A6x k n h t).1∧(A6x k n h t).2.length=t.length % 64
 | 0,h,t,hh,ht=>⟨hh,by show t.length=_;omega⟩
 | n+1,h,t,hh,ht=>by
  unfold A6x
  split
  ·rename_i h64
   have:=A9P (k:=k) (n:=n) (h:=A6n k h t) (t:=t.drop 64) (A7J hh) (by rw[A1];omega)
   refine⟨this.1,this.2.trans ?_⟩
   rw[A1]
   omega
  ·exact⟨hh,by show t.length=_;omega⟩
theorem A3X {a b:Nat} (h:a≤b):B7 a b=true:=by rw[Bh];exact h
theorem A5g (v4:HS) (m:Int):∀ (n:Nat) (h:List Nat) (t:List UInt8),Wd 8 h→t.length < 64 * (n+1) →
  rB R L (cl h,(t,(m,()))) v4=some ((cl (A6x kT n h t).1,((A6x kT n h t).2,(m,()))),()):=by
 have stop:∀ (h:List Nat) (t:List UInt8),t.length < 64→rB R L (cl h,(t,(m,()))) v4=some ((cl h,(t,(m,()))),()):=by
  intro h t ht
  have hq:rB R L (cl h,(t,(m,()))) v4=_:=round (by kernel_rfl) (AJ6 R L (cl h,(t,(m,()))) v4)
  rw[hq,Ak (show ¬ ((64:Int)≤((t.length:Nat):Int)) by omega)]
  rfl
 intro n
 induction n with
 | zero=>intro h t hh ht;exact stop h t (by omega)
 | succ n ih=>
  intro h t hh ht
  unfold A6x
  split
  ·rename_i h64
   have hq:rB R L (cl h,(t,(m,()))) v4=_:=round (by kernel_rfl) (AJ6 R L (cl h,(t,(m,()))) v4)
   rw[hq,Ai (show (64:Int)≤((t.length:Nat):Int) by omega),(A2R h t hh h64).1]
   simp only[Ah,Ac]
   rw[A3X (Ao _),show Aq 64=64 from rfl,A3X h64,AN]
   exact ih (A6n kT h t) (t.drop 64) (A7J hh) (by rw[A1];omega)
  ·rename_i h64
   exact stop h t (by omega)
theorem A6q (v4:HS) (m:Int) (old:List UInt8):∀ (n:Nat) (h:List Nat) (t:List UInt8),Wd 8 h→t.length < 64 * (n+1) →
  tA R L t (cl h,(old,(m,()))) v4 (cl kT)=some ((cl (A6x kT n h t).1,((A6x kT n h t).2,(m,()))),()):=by
 have stop:∀ (h:List Nat) (t:List UInt8),t.length < 64→tA R L t (cl h,(old,(m,()))) v4 (cl kT)=some ((cl h,(t,(m,()))),()):=by
  intro h t ht
  have hq:tA R L t (cl h,(old,(m,()))) v4 (cl kT)=_:=round (by kernel_rfl) (bG R L t (cl h,(old,(m,()))) v4 (cl kT))
  rw[hq,Ak (show ¬ ((64:Int)≤((t.length:Nat):Int)) by omega)]
  rfl
 intro n
 induction n with
 | zero=>intro h t hh ht;exact stop h t (by omega)
 | succ n ih=>
  intro h t hh ht
  unfold A6x
  split
  ·rename_i h64
   have hq:tA R L t (cl h,(old,(m,()))) v4 (cl kT)=_:=round (by kernel_rfl) (bG R L t (cl h,(old,(m,()))) v4 (cl kT))
   rw[hq,Ai (show (64:Int)≤((t.length:Nat):Int) by omega),show Aq 64=64 from rfl,A3X h64,Ap,BA6 h _ (t.take 64) hh (by rw[A6];omega),A6I]
   simp only[Ah,Ac]
   rw[A3X (Ao _),AN]
   exact ih (A6n kT h t) (t.drop 64) (A7J hh) (by rw[A1];omega)
  ·rename_i h64
   exact stop h t (by omega)
def hS (h:List Nat) (r:List UInt8) (m:Nat):HS:=(cl h,(r,((m:Int),())))
def A8q (h:List Nat) (r t:List UInt8):List Nat × List UInt8:=A6x kT ((r++t).length / 64) h (r++t)
theorem A2J (n:Nat):n < 64 * (n / 64+1):=by omega
theorem Ak2 (h:List Nat) (r t:List UInt8) (m:Nat) (hh:Wd 8 h) (hr:r.length≤1024) (ht:t.length≤549755813888) (hm:m≤549755813888):
  oW R (hS h r m) t=some (hS (A8q h r t).1 (A8q h r t).2 (m+t.length),()):=by
 have hq:oW R (hS h r m) t=_:=call (A1h R L (hS h r m) t)
 rw[hq]
 unfold hS
 simp only
 rw[wC (by omega),Ad8 (by simp only[uV];omega)]
 simp only[Ah]
 exact A5g _ _ _ h (r++t) hh (A2J _)
theorem A9M (h:List Nat) (r t:List UInt8) (m:Nat) (hh:Wd 8 h) (hr:r.length≤1024) (ht:t.length≤549755813888) (hm:m≤549755813888):
  rY R (hS h r m) t=some (hS (A8q h r t).1 (A8q h r t).2 (m+t.length),()):=by
 have hq:rY R (hS h r m) t=_:=call (As4 R L (hS h r m) t)
 rw[hq,A1l]
 unfold hS
 simp only[Ac]
 rw[wC (by omega),Ad8 (by simp only[uV];omega)]
 simp only[Ah]
 exact A6q _ _ _ _ h (r++t) hh (A2J _)
theorem Ai0 {h:List Nat} {r t:List UInt8} (hh:Wd 8 h):Wd 8 (A8q h r t).1∧(A8q h r t).2.length=(r++t).length % 64:=A9P hh (A2J _)
theorem AU6 (l:List Nat):A9 (fun n:Int=>Ax (Aq n)) (cl l)=ub l:=by
 unfold cl ub
 rw[Bi]
 rfl
theorem AJ1 (a b:List Nat):cl a++cl b=cl (a++b):=by
 unfold cl;rw[AK]
def A1q (m:Nat):Nat:=(119 - m % 64) % 64
def A7a (b:Nat):List Nat:=[b / 2 ^ 56 % 256,b / 2 ^ 48 % 256,b / 2 ^ 40 % 256,b / 2 ^ 32 % 256,b / 2 ^ 24 % 256,b / 2 ^ 16 % 256,b / 2 ^ 8 % 256,b / 2 ^ 0 % 256]
def A9T (m:Nat):List Nat:=128 :: Aa (A1q m) 0
def A9Y (m:Nat):List UInt8:=ub (A9T m++A7a (8 * m))
theorem A3R (m:Nat):(A9Y m).length=A1q m+9:=by
 unfold A9Y ub A9T A7a
 rw[At,Ae,Ad,An]
 rfl
def be4 (x:Nat):List Nat:=[x / 2 ^ 24 % 256,x / 2 ^ 16 % 256,x / 2 ^ 8 % 256,x % 256]
theorem A6l (a b:Nat):AA (a:Int) (b:Int)=((a % b:Nat):Int):=rfl
theorem A2v (v1:HS) (v3:Int) (m:Nat) (hv:v1.2.2.1=(m:Int)) (hm:m≤549755813888):∀ (k j:Nat),j+k=A1q m →
  rX R L v1 v3 (cl (128 :: Aa j 0))=wQ R L v1 v3 (cl (A9T m)) 7
 | 0,j,hj=>by
  have hq:rX R L v1 v3 (cl (128 :: Aa j 0))=_:=round (by kernel_rfl) (AT5 R L v1 v3 (cl (128 :: Aa j 0)))
  have hp:A1q m=(119 - m % 64) % 64:=rfl
  rw[hq,hv,oI,Ad,An,Ad8 (by simp only[uV];omega),show AA ((m+(j+1):Nat):Int) 64=(((m+(j+1)) % 64:Nat):Int) from A6l _ 64,
   show eqI (((m+(j+1)) % 64:Nat):Int) 56=true from by rw[uS];exact Ai (by omega)]
  have:j=A1q m:=by omega
  subst this
  rfl
 | k+1,j,hj=>by
  have hq:rX R L v1 v3 (cl (128 :: Aa j 0))=_:=round (by kernel_rfl) (AT5 R L v1 v3 (cl (128 :: Aa j 0)))
  have hp:A1q m=(119 - m % 64) % 64:=rfl
  rw[hq,hv,oI,Ad,An,Ad8 (by simp only[uV];omega),show AA ((m+(j+1):Nat):Int) 64=(((m+(j+1)) % 64:Nat):Int) from A6l _ 64,
   show eqI (((m+(j+1)) % 64:Nat):Int) 56=false from by rw[uS];exact Ak (by omega)]
  simp only[A8,Ah]
  rw[wC (by simp only[Ad,Af];omega)]
  simp only[Ah]
  have e:cl (128 :: Aa j 0)++[(0:Int)]=cl (128 :: Aa (j+1) 0):=by
   rw[show [(0:Int)]=cl [0] from rfl,AJ1,List.replicate_succ',Bf]
  rw[e]
  exact A2v v1 v3 m hv hm k (j+1) (by omega)
theorem A76 (v1:HS) (b:Nat) (hb:b < 9223372036854775808) (p:List Nat) (hp:p.length≤100) (j:Nat) (hj:j < 8):
  wQ R L v1 (b:Int) (cl p) (j:Int)=wQ R L v1 (b:Int) (cl (p++[b / 2 ^ (8 * j) % 256])) (Ab .i64 ((j:Int) - 1)):=by
 have hq:wQ R L v1 (b:Int) (cl p) (j:Int)=_:=round (by kernel_rfl) (AT8 R L v1 (b:Int) (cl p) (j:Int))
 have e8:Ab .i64 ((8:Int) * (j:Int))=((8 * j:Nat):Int):=by rw[yI (by omega) (by omega)];omega
 rw[hq,Ai (show (0:Int)≤(j:Int) by omega),e8,Ak (show ¬ (((8 * j:Nat):Int) < 0) by omega),tn,show A0 (8 * j) (Am .i64)=8 * j from Au (by simp only[Am];omega),mE,uY,
  wC (by rw[oI];simp only[Ad,Af];omega)]
 simp only[Ah,Aj]
 rw[show [((b / 2 ^ (8 * j) % 256:Nat):Int)]=cl [b / 2 ^ (8 * j) % 256] from rfl,AJ1]
theorem A8r (v1:HS) (b:Nat) (hb:b < 9223372036854775808) (p:List Nat) (hp:p.length≤100) (j:Nat) (hj:j < 8):
  xK R L v1 (b:Int) (ub p) (j:Int)=xK R L v1 (b:Int) (ub (p++[b / 2 ^ (8 * j) % 256])) (Ab .i64 ((j:Int) - 1)):=by
 have hq:xK R L v1 (b:Int) (ub p) (j:Int)=_:=round (by kernel_rfl) (AE6 R L v1 (b:Int) (ub p) (j:Int))
 have e8:Ab .i64 ((8:Int) * (j:Int))=((8 * j:Nat):Int):=by rw[yI (by omega) (by omega)];omega
 have hl:(ub p).length=p.length:=At _
 rw[hq,Ai (show (0:Int)≤(j:Int) by omega),e8,Ak (show ¬ (((8 * j:Nat):Int) < 0) by omega),tn,show A0 (8 * j) (Am .i64)=8 * j from Au (by simp only[Am];omega),mE,uY,
  wC (by rw[hl,At];simp only[Ad,Af];omega)]
 simp only[Ah,Aj]
 rw[show [((b / 2 ^ (8 * j) % 256:Nat):Int)]=cl [b / 2 ^ (8 * j) % 256] from rfl,AU6]
 unfold ub
 rw[AK]
theorem A59 (v1:HS) (b:Nat) (hb:b < 9223372036854775808) (p:List Nat) (hp:p.length≤64):
  wQ R L v1 (b:Int) (cl p) 7=(oW R v1 (ub (p++A7a b))).bind fun r0=>wR R L r0.1 ([]:List Int) 0:=by
 have st:=fun (q:List Nat) (hq:q.length≤100) (j:Nat) hj=>A76 v1 b hb q hq j hj
 have e:wQ R L v1 (b:Int) (cl p) 7=wQ R L v1 (b:Int) (cl (p++A7a b)) (-1):=by
  have d:∀ j:Nat,j < 8→Ab .i64 (((j+1:Nat):Int) - 1)=(j:Int):=fun j hj=>A5S (c:=1) (by omega) (by omega)
  have len:∀ (q:List Nat) (x:Nat),(q++[x]).length=q.length+1:=fun q x=>by simp
  show wQ R L v1 (b:Int) (cl p) ((7:Nat):Int)=_
  rw[st p (by omega) 7 (by decide),d 6 (by decide),st _ (by simp only[len];omega) 6 (by decide),d 5 (by decide),st _ (by simp only[len];omega) 5 (by decide),d 4 (by decide),st _ (by simp only[len];omega) 4 (by decide),d 3 (by decide),
   st _ (by simp only[len];omega) 3 (by decide),d 2 (by decide),st _ (by simp only[len];omega) 2 (by decide),d 1 (by decide),st _ (by simp only[len];omega) 1 (by decide),d 0 (by decide),st _ (by simp only[len];omega) 0 (by decide)]
  simp only[Az]
  rfl
 have hq:wQ R L v1 (b:Int) (cl (p++A7a b)) (-1)=_:=round (by kernel_rfl) (AT8 R L v1 (b:Int) (cl (p++A7a b)) (-1))
 rw[e,hq,show decide ((0:Int)≤-1)=false from by decide,AU6]
 rfl
theorem A5W (v1:HS) (b:Nat) (hb:b < 9223372036854775808) (p:List Nat) (hp:p.length≤64):
  xK R L v1 (b:Int) (ub p) 7=(rY R v1 (ub (p++A7a b))).bind fun r0=>wK R L ([]:List Int) r0.1.1 0:=by
 have st:=fun (q:List Nat) (hq:q.length≤100) (j:Nat) hj=>A8r v1 b hb q hq j hj
 have e:xK R L v1 (b:Int) (ub p) 7=xK R L v1 (b:Int) (ub (p++A7a b)) (-1):=by
  have d:∀ j:Nat,j < 8→Ab .i64 (((j+1:Nat):Int) - 1)=(j:Int):=fun j hj=>A5S (c:=1) (by omega) (by omega)
  have len:∀ (q:List Nat) (x:Nat),(q++[x]).length=q.length+1:=fun q x=>by simp
  show xK R L v1 (b:Int) (ub p) ((7:Nat):Int)=_
  rw[st p (by omega) 7 (by decide),d 6 (by decide),st _ (by simp only[len];omega) 6 (by decide),d 5 (by decide),st _ (by simp only[len];omega) 5 (by decide),d 4 (by decide),st _ (by simp only[len];omega) 4 (by decide),d 3 (by decide),
   st _ (by simp only[len];omega) 3 (by decide),d 2 (by decide),st _ (by simp only[len];omega) 2 (by decide),d 1 (by decide),st _ (by simp only[len];omega) 1 (by decide),d 0 (by decide),st _ (by simp only[len];omega) 0 (by decide)]
  simp only[Az]
  rfl
 have hq:xK R L v1 (b:Int) (ub (p++A7a b)) (-1)=_:=round (by kernel_rfl) (AE6 R L v1 (b:Int) (ub (p++A7a b)) (-1))
 rw[e,hq,show decide ((0:Int)≤-1)=false from by decide]
 rfl
end Go.Rf.S

end
section
namespace Go.Rf.S
set_option maxRecDepth 100000
def stO (h:List Nat) (i:Nat) (o:List Nat):List Nat:=o++be4 (h.getD i 0)
theorem A6s (h:List Nat) (hh:Wd 8 h) (rest:List UInt8 × (Int × Unit)) (o:List Nat) (ho:o.length≤100) (i:Nat) (hi:i < 8):
  uK R L (cl h,rest) (cl o) (i:Int) 3=wR R L (cl h,rest) (cl (stO h i o)) ((i+1:Nat):Int):=by
 have st:∀ (q:List Nat),q.length≤200→∀ j,j < 4→uK R L (cl h,rest) (cl q) (i:Int) (j:Nat)=uK R L (cl h,rest) (cl (q++[h.getD i 0 / 2 ^ (8 * j) % 256])) (i:Int) (Ab .i64 ((j:Int) - 1)):=by
  intro q hq j hj
  have hq':uK R L (cl h,rest) (cl q) (i:Int) (j:Nat)=_:=round (by kernel_rfl) (AR5 R L (cl h,rest) (cl q) (i:Int) (j:Nat))
  have e8:Ab .i64 ((8:Int) * (j:Int))=((8 * j:Nat):Int):=by rw[yI (by omega) (by omega)];omega
  rw[hq',Ai (show (0:Int)≤(j:Int) by omega),e8,Ak (show ¬ (((8 * j:Nat):Int) < 0) by omega)]
  simp only[nn,tn,Ah,Aj,zT (show i < 8 from hi),zY]
  rw[show A0 (8 * j) (Am .i64)=8 * j from Au (by simp only[Am];omega),mE,uY,wC (by rw[oI];simp only[Ad,Af];omega)]
  simp only[Ah]
  rw[show [((h.getD i 0 / 2 ^ (8 * j) % 256:Nat):Int)]=cl [h.getD i 0 / 2 ^ (8 * j) % 256] from rfl,AJ1]
 have d:∀ j:Nat,j < 8→Ab .i64 (((j+1:Nat):Int) - 1)=(j:Int):=fun j hj=>A5S (c:=1) (by omega) (by omega)
 have len:∀ (q:List Nat) (x:Nat),(q++[x]).length=q.length+1:=fun q x=>by simp
 have hend:∀ q,uK R L (cl h,rest) q (i:Int) (-1)=wR R L (cl h,rest) q (Ab .i64 ((i:Int)+1)):=fun q=>by
  have hq':uK R L (cl h,rest) q (i:Int) (-1)=_:=round (by kernel_rfl) (AR5 R L (cl h,rest) q (i:Int) (-1))
  rw[hq'];rfl
 show uK R L (cl h,rest) (cl o) (i:Int) ((3:Nat):Int)=_
 rw[st o (by omega) 3 (by decide),d 2 (by decide),st _ (by simp only[len];omega) 2 (by decide),d 1 (by decide),st _ (by simp only[len];omega) 1 (by decide),d 0 (by decide),st _ (by simp only[len];omega) 0 (by decide),
  show Ab .i64 (((0:Nat):Int) - 1)=-1 from by decide,hend,zB (by omega)]
 simp only[Az]
 unfold stO be4
 simp only[Nat.mul_zero,AJ,AP,Bf,AS,show 8 * 3=24 from rfl,show 8 * 2=16 from rfl,show 8 * 1=8 from rfl]
theorem A56 (h:List Nat) (i:Nat) (o:List Nat):(stO h i o).length=o.length+4:=by
 unfold stO be4;rw[Ae];rfl
theorem A2z (h:List Nat) (hh:Wd 8 h) (rest:List UInt8 × (Int × Unit)):
  wR R L (cl h,rest) (cl []) 0=some (ub (xO (stO h) 8 0 []),())∧(xO (stO h) 8 0 []).length=4 * 8:=
 yE (fun (o:List Nat) i=>wR R L (cl h,rest) (cl o) i) (stO h) (fun i o=>o.length=4 * i) 8 (fun o=>some (ub o,()))
  (fun o _=>by
   have hq:wR R L (cl h,rest) (cl o) (8:Nat)=_:=round (by kernel_rfl) (AS5 R L (cl h,rest) (cl o) (8:Nat))
   show wR R L (cl h,rest) (cl o) (8:Nat)=_
   rw[hq,show decide (((8:Nat):Int) < 8)=false from by decide,AU6];rfl)
  (fun o i hi ho=>by
   have hq:wR R L (cl h,rest) (cl o) (i:Nat)=_:=round (by kernel_rfl) (AS5 R L (cl h,rest) (cl o) (i:Nat))
   refine⟨?_,by rw[A56];omega⟩
   show wR R L (cl h,rest) (cl o) (i:Nat)=_
   rw[hq,show decide ((i:Int) < 8)=true from Ai (by omega)]
   exact A6s h hh rest o (by omega) i hi)
  [] rfl
theorem A7x (h:List Nat) (hh:Wd 8 h):
  wK R L (cl []) (cl h) 0=some (ub (xO (stO h) 8 0 []),())∧(xO (stO h) 8 0 []).length=4 * 8:=
 yE (fun (o:List Nat) i=>wK R L (cl o) (cl h) i) (stO h) (fun i o=>o.length=4 * i) 8 (fun o=>some (ub o,()))
  (fun o _=>by
   have hq:wK R L (cl o) (cl h) (8:Nat)=_:=round (by kernel_rfl) (AD8 R L (cl o) (cl h) (8:Nat))
   show wK R L (cl o) (cl h) (8:Nat)=_
   rw[hq,show decide (((8:Nat):Int) < 8)=false from by decide,AU6];rfl)
  (fun o i hi ho=>by
   have hq:wK R L (cl o) (cl h) (i:Nat)=_:=round (by kernel_rfl) (AD8 R L (cl o) (cl h) (i:Nat))
   refine⟨?_,by rw[A56];omega⟩
   show wK R L (cl o) (cl h) (i:Nat)=_
   have m24:A0 (Aq 24) (Am .i64)=24:=rfl
   have m16:A0 (Aq 16) (Am .i64)=16:=rfl
   have m8:A0 (Aq 8) (Am .i64)=8:=rfl
   rw[hq,show decide ((i:Int) < 8)=true from Ai (by omega),zB (by omega)]
   simp only[nn,tn,Ah,zT (show i < 8 from hi),zY]
   rw[m24,m16,m8,mE,mE,mE,uY,uY,uY,uY,wC (by rw[oI];simp only[Ad,Af];omega)]
   simp only[Ah]
   rw[show [((h.getD i 0 / 2 ^ 24 % 256:Nat):Int),((h.getD i 0 / 2 ^ 16 % 256:Nat):Int),((h.getD i 0 / 2 ^ 8 % 256:Nat):Int),((h.getD i 0 % 256:Nat):Int)]=cl (be4 (h.getD i 0)) from rfl,AJ1]
   rfl)
  [] rfl
theorem Ac7:∀ n:Nat,Go.Lib.repeatL [(0:UInt8)] n=ub (Aa n 0)
 | 0=>by simp[Go.Lib.repeatL,ub]
 | n+1=>by
  show [(0:UInt8)]++Go.Lib.repeatL [0] n=_
  rw[Ac7 n]
  unfold ub
  rw[AU,B1]
  rfl
theorem Av7 (n:Nat) (hn:n≤64):qE R [0] (n:Int)=some (ub (Aa n 0),()):=by
 have e:qE R [0] (n:Int)=BN8 [⟨.str,[0]⟩,⟨.int .i64,(n:Int)⟩]:=BB0 rfl _
 rw[e]
 show cond (decide (0≤(n:Int))&&(BD 0 ([0]:List UInt8).length&&B7 (([0]:List UInt8).length * Aq (n:Int)) 1099511627776)) (some (Go.Lib.repeatL [0] (Aq (n:Int)),())) none=_
 rw[Ai (show (0:Int)≤(n:Int) by omega),tn,show BD 0 ([0]:List UInt8).length=true from rfl,show B7 (([0]:List UInt8).length * n) 1099511627776=true from by rw[Bh];simp only[Ad,Af];omega,Ac7]
 rfl
def BJ4 (h:List Nat) (r:List UInt8) (m:Nat):List UInt8:=ub (xO (stO (A8q h r (A9Y m)).1) 8 0 [])
theorem A72 (h:List Nat) (r:List UInt8) (m:Nat) (hh:Wd 8 h):(BJ4 h r m).length=32:=by
 unfold BJ4 ub
 rw[At,(A2z _ (Ai0 (r:=r) (t:=A9Y m) hh).1 ([],((0:Int),()))).2]
theorem A61 (h:List Nat) (r:List UInt8) (m:Nat) (hh:Wd 8 h) (hr:r.length=m % 64) (hm:m≤549755813888):AA9 R (hS h r m)=some (BJ4 h r m,()):=by
 have hq:AA9 R (hS h r m)=_:=call (A4G R L (hS h r m))
 have e8:Ab .i64 ((8:Int) * (m:Int))=((8 * m:Nat):Int):=by rw[yI (by omega) (by omega)];omega
 have hp:A1q m≤63:=by unfold A1q;omega
 have hpl:(A9T m).length≤64:=by unfold A9T;rw[Ad,An];omega
 have hT:=A3R m
 rw[hq]
 show rX R L (hS h r m) (Ab .i64 ((8:Int) * (m:Int))) (cl (128 :: Aa 0 0))=_
 rw[e8,A2v (hS h r m) _ m rfl hm (A1q m) 0 (by omega),A59 _ _ (by omega) _ hpl]
 show (oW R (hS h r m) (A9Y m)).bind _=_
 rw[Ak2 h r (A9Y m) m hh (by omega) (by omega) hm]
 simp only[Ac]
 exact (A2z _ (Ai0 hh).1 _).1
theorem BQ8 (h:List Nat) (r:List UInt8) (m:Nat) (hh:Wd 8 h) (hr:r.length=m % 64) (hm:m≤549755813888):gX R (hS h r m)=some (BJ4 h r m,()):=by
 have hq:gX R (hS h r m)=_:=call (Ax9 R L (hS h r m))
 have e8:Ab .i64 ((8:Int) * (m:Int))=((8 * m:Nat):Int):=by rw[yI (by omega) (by omega)];omega
 have hp:A1q m≤63:=by unfold A1q;omega
 have hpl:(A9T m).length≤64:=by unfold A9T;rw[Ad,An];omega
 have hT:=A3R m
 have en:AA (Ab .i64 ((119:Int) - ((r.length:Nat):Int))) 64=((A1q m:Nat):Int):=by
  rw[show (119:Int) - ((r.length:Nat):Int)=((119 - r.length:Nat):Int) by omega,tV (by omega),show AA ((119 - r.length:Nat):Int) 64=(((119 - r.length) % 64:Nat):Int) from A6l _ 64,hr]
  rfl
 rw[hq]
 show (qE R [0] (AA (Ab .i64 ((119:Int) - ((r.length:Nat):Int))) 64)).bind (fun r0=>cond (zX (1+r0.1.length)) (xK R L (hS h r m) (Ab .i64 ((8:Int) * (m:Int))) ([128]++r0.1) 7) none)=_
 rw[en,Av7 _ (by omega)]
 simp only[Ac]
 have hul:(ub (Aa (A1q m) 0)).length=A1q m:=by unfold ub;rw[At,An]
 rw[wC (by omega),e8,show ([128]:List UInt8)++ub (Aa (A1q m) 0)=ub (A9T m) from rfl]
 simp only[Ah]
 rw[A5W _ _ (by omega) _ hpl]
 show (rY R (hS h r m) (A9Y m)).bind _=_
 rw[A9M h r (A9Y m) m hh (by omega) (by omega) hm]
 simp only[Ac]
 exact (A7x _ (Ai0 hh).1).1
def dig (t:List UInt8):List UInt8:=BJ4 (A8q hT [] t).1 (A8q hT [] t).2 t.length
theorem Am4 (t:List UInt8):(dig t).length=32:=A72 _ _ _ (Ai0 BI7).1
theorem Am6 (t:List UInt8) (ht:t.length≤549755813888):lA R t=some (dig t,()):=by
 have hq:lA R t=_:=call (A43 R L t)
 have hn:AG8 R=some (hS hT [] 0,()):=call (A2Q R L)
 have hw:=Ai0 (r:=[]) (t:=t) BI7
 rw[hq,hn]
 simp only[Ac]
 rw[A9M hT [] t 0 BI7 (by simp) ht (by decide)]
 simp only[Ac]
 rw[Bj,BQ8 _ _ t.length hw.1 hw.2 ht]
 rfl
theorem A1z (t:List UInt8) (ht:t.length≤549755813888):gB R t=some (dig t,()):=by
 have hq:gB R t=_:=call (A5X R L t)
 have hn0:cA R=_:=call (A2B R L)
 have hn:cA R=some (hS hT [] 0,()):=by rw[hn0,A97];rfl
 have hw:=Ai0 (r:=[]) (t:=t) BI7
 rw[hq,hn]
 simp only[Ac]
 rw[Ak2 hT [] t 0 BI7 (by simp) ht (by decide)]
 simp only[Ac]
 rw[Bj,A61 _ _ t.length hw.1 hw.2 ht]
 rfl
end Go.Rf.S

end
section
namespace Go.Rf.S
set_option maxRecDepth 100000
theorem BQ3:∀ n:Fin 32,yU .and .u64 (Ab .u64 (n.val:Int)) 31=(n.val:Int):=by decide +kernel
theorem A87 (x n:Nat) (hx:x < 4294967296) (hn:n < 32):yM R (x:Int) (n:Int)=some (((rl n x:Nat):Int),()):=by
 have hq:yM R (x:Int) (n:Int)=_:=call (nK R L (x:Int) (n:Int))
 have e1:=BQ3 ⟨n,hn⟩
 simp only at e1
 have e2:Ab .u64 ((32:Int) - (n:Int))=((32 - n:Nat):Int):=by
  rw[show (32:Int) - (n:Int)=((32 - n:Nat):Int) by omega,AL0 (by simp only[uV];omega)]
 rw[hq,e1,e2,Ak (show ¬ (((32 - n:Nat):Int) < 0) by omega)]
 simp only[Aj,tn]
 rw[show A0 (32 - n) (Am .u32)=32 - n from Au (by simp only[Am];omega),show A0 n (Am .u32)=n from Au (by simp only[Am];omega),A3m,Ad5,mE,
  Aa9 (k:=.u32) (wA _) (pV _ hx)]
 rfl
theorem A2h (x n:Nat) (hx:x < 4294967296) (hn:n < 31):tU R (x:Int) (n:Int)=some (((rl n x:Nat):Int),()):=by
 have hq:tU R (x:Int) (n:Int)=_:=call (A1Y R L (x:Int) (n:Int))
 have e2:Ab .i64 ((32:Int) - (n:Int))=((32 - n:Nat):Int):=by
  rw[yI (by omega) (by omega)];omega
 have hb:x * 2 ^ n < 9223372036854775808:=by
  have h1:2 ^ n≤2 ^ 30:=AB (by decide) (by omega)
  have h2:x * 2 ^ n≤x * 2 ^ 30:=Bw _ h1
  omega
 rw[hq,e2,Ak (show ¬ ((n:Int) < 0) by omega),Ak (show ¬ (((32 - n:Nat):Int) < 0) by omega)]
 simp only[Aj,tn]
 rw[show A0 (32 - n) (Am .i64)=32 - n from Au (by simp only[Am];omega),show A0 n (Am .i64)=n from Au (by simp only[Am];omega),Ax7 (k:=.i64) hb,mE,
  Aa9 (k:=.i64) hb (B8 (pV _ hx) (by decide)),m32 (Nat.or_lt_two_pow (n:=63) hb (B8 (pV _ hx) (by decide))),BC1 hx]
def qT:List (List Int):=[[16,12],[8,7]]
theorem A7M (a b c d:Nat) (ha:a < 4294967296) (hb:b < 4294967296) (hc:c < 4294967296) (hd:d < 4294967296):
  cH R (a:Int) (b:Int) (c:Int) (d:Int)=some ((((qr a b c d).1:Nat):Int),((((qr a b c d).2.1:Nat):Int),((((qr a b c d).2.2.1:Nat):Int),((((qr a b c d).2.2.2:Nat):Int),())))):=by
 have hq:cH R (a:Int) (b:Int) (c:Int) (d:Int)=_:=call (A06 R L (a:Int) (b:Int) (c:Int) (d:Int))
 have st:∀ (a b c d i s1 s2:Nat),b < 4294967296→d < 4294967296→i < 2→s1 < 32→s2 < 32→(qT.getD i (Aa 2 (0:Int))).getD (Aq 0) 0=(s1:Int)→(qT.getD i (Aa 2 (0:Int))).getD (Aq 1) 0=(s2:Int) →
   uL R L (a:Int) (b:Int) (c:Int) (d:Int) qT (i:Int) =
    uL R L (((a+b) % 4294967296:Nat):Int) ((rl s2 (b ^^^ ((c+rl s1 (d ^^^ ((a+b) % 4294967296))) % 4294967296)):Nat):Int) (((c+rl s1 (d ^^^ ((a+b) % 4294967296))) % 4294967296:Nat):Int) ((rl s1 (d ^^^ ((a+b) % 4294967296)):Nat):Int) qT ((i+1:Nat):Int):=by
  intro a b c d i s1 s2 hb hd hi h1 h2 e1 e2
  have hq:uL R L (a:Int) (b:Int) (c:Int) (d:Int) qT (i:Int)=_:=round (by kernel_rfl) (AI8 R L (a:Int) (b:Int) (c:Int) (d:Int) qT (i:Int))
  rw[hq,show decide ((i:Int) < 2)=true from Ai (by omega),zB (by omega)]
  simp only[nn,tn,Ah,zT (show i < 2 from hi),A9Q]
  rw[e1,e2,cZ (k:=.u32) (by decide) hd (wA _),A87 _ s1 (yX hd (wA _)) h1]
  simp only[Ac,A9Q]
  rw[cZ (k:=.u32) (by decide) hb (wA _),A87 _ s2 (yX hb (wA _)) h2]
  rfl
 rw[hq]
 show uL R L (a:Int) (b:Int) (c:Int) (d:Int) qT ((0:Nat):Int)=_
 rw[st a b c d 0 16 12 hb hd (by decide) (by decide) (by decide) rfl rfl,st _ _ _ _ 1 8 7 (Ae8 (yX hb (wA _))) (Ae8 (yX hd (wA _))) (by decide) (by decide) (by decide) rfl rfl]
 have he:∀ (a b c d:Int),uL R L a b c d qT ((1+1:Nat):Int)=some (a,(b,(c,(d,())))):=fun a b c d=>by
  have hq:uL R L a b c d qT ((1+1:Nat):Int)=_:=round (by kernel_rfl) (AI8 R L a b c d qT ((1+1:Nat):Int))
  rw[hq];rfl
 rw[he]
 rfl
def ql (q:Nat × Nat × Nat × Nat):List Nat:=[q.1,q.2.1,q.2.2.1,q.2.2.2]
theorem Aq2 (a b c d:Nat) (ha:a < 4294967296) (hb:b < 4294967296) (hc:c < 4294967296) (hd:d < 4294967296):
  lW R (a:Int) (b:Int) (c:Int) (d:Int)=some (cl (ql (qr a b c d)),()):=by
 have hq:lW R (a:Int) (b:Int) (c:Int) (d:Int)=_:=call (Ag2 R L (a:Int) (b:Int) (c:Int) (d:Int))
 have sm:∀ {x y:Nat},x < 4294967296→y < 4294967296→yU .and .i64 (Ab .i64 ((x:Int)+(y:Int))) 4294967295=(((x+y) % 4294967296:Nat):Int):=fun hx hy=>by
  rw[Ad8 (by simp only[uV];omega),m32 (by omega)]
 have L16:∀ {x:Nat},x < 4294967296→tU R (x:Int) 16=some (((rl 16 x:Nat):Int),()):=fun {x} h=>A2h x 16 h (by decide)
 have L12:∀ {x:Nat},x < 4294967296→tU R (x:Int) 12=some (((rl 12 x:Nat):Int),()):=fun {x} h=>A2h x 12 h (by decide)
 have L8:∀ {x:Nat},x < 4294967296→tU R (x:Int) 8=some (((rl 8 x:Nat):Int),()):=fun {x} h=>A2h x 8 h (by decide)
 have L7:∀ {x:Nat},x < 4294967296→tU R (x:Int) 7=some (((rl 7 x:Nat):Int),()):=fun {x} h=>A2h x 7 h (by decide)
 have h1:=wA (a+b)
 have hd1:rl 16 (d ^^^ ((a+b) % 4294967296)) < 4294967296:=Ae8 (yX hd h1)
 have hc1:=wA (c+rl 16 (d ^^^ ((a+b) % 4294967296)))
 rw[hq,sm ha hb,cZ (k:=.i64) (by decide) hd h1,L16 (yX hd h1)]
 simp only[Ac]
 rw[sm hc hd1,cZ (k:=.i64) (by decide) hb hc1,L12 (yX hb hc1)]
 simp only[Ac]
 have hb1:rl 12 (b ^^^ ((c+rl 16 (d ^^^ ((a+b) % 4294967296))) % 4294967296)) < 4294967296:=Ae8 (yX hb hc1)
 rw[sm h1 hb1,cZ (k:=.i64) (by decide) hd1 (wA _),L8 (yX hd1 (wA _))]
 simp only[Ac]
 rw[sm hc1 (Ae8 (yX hd1 (wA _))),cZ (k:=.i64) (by decide) hb1 (wA _),L7 (yX hb1 (wA _))]
 rfl
theorem BE8 {a b c d:Nat} {y:List Nat} {n:Nat} (h:Wd n y):Wd n (qs a b c d y):=⟨by rw[BK0];exact h.1,BQ5 h.2⟩
theorem A6B (y:List Nat) (hy:Wd 16 y) (a b c d:Nat) (ha:a < 16) (hb:b < 16) (hc:c < 16) (hd:d < 16):
  kG R (cl y) (a:Int) (b:Int) (c:Int) (d:Int)=some (cl (qs a b c d y),()):=by
 have hq:kG R (cl y) (a:Int) (b:Int) (c:Int) (d:Int)=_:=call (Aw2 R L (cl y) (a:Int) (b:Int) (c:Int) (d:Int))
 rw[hq]
 simp only[nn,tn,Ah,zT ha,zT hb,zT hc,zT hd,zY]
 rw[Aq2 _ _ _ _ (hy.g a) (hy.g b) (hy.g c) (hy.g d)]
 simp only[Ac,zY,uB]
 rfl
theorem A9C (k:IntKind) (hk:4294967296≤uV k) (h32:32≤k.bits) (t:List UInt8) (i:Nat):
  yU .or k (yU .or k (yU .or k (Ab k (((t.getD i 0).toNat:Nat):Int))
   (Ab k (Ab k (((t.getD (i+1) 0).toNat:Nat):Int) * ((2:Int) ^ A0 (Aq 8) k.bits))))
   (Ab k (Ab k (((t.getD (i+2) 0).toNat:Nat):Int) * ((2:Int) ^ A0 (Aq 16) k.bits))))
   (Ab k (Ab k (((t.getD (i+3) 0).toNat:Nat):Int) * ((2:Int) ^ A0 (Aq 24) k.bits)))=((wLE t i:Nat):Int):=by
 have h0:=sI t i;have h1:=sI t (i+1);have h2:=sI t (i+2);have h3:=sI t (i+3)
 have m24:A0 (Aq 24) k.bits=24:=Au (by show 24≤_;omega)
 have m16:A0 (Aq 16) k.bits=16:=Au (by show 16≤_;omega)
 have m8:A0 (Aq 8) k.bits=8:=Au (by show 8≤_;omega)
 have hk8:256≤uV k:=A3 (by decide) hk
 unfold bt at h0 h1 h2 h3
 rw[m24,m16,m8,Ax1 hk8,Ax1 hk8,Ax1 hk8,Ax1 hk8,Ax7 (by omega),Ax7 (by omega),Ax7 (by omega),BG5 hk (by omega) (by omega),BG5 hk (lG (by omega) (by omega)) (by omega),BG5 hk (lG (lG (by omega) (by omega)) (by omega)) (by omega)]
 rfl
theorem A1e (t:List UInt8) (i:Nat) (h:i+3 < t.length) (hi:i < 1099511627776):nA R t (i:Int)=some (((wLE t i:Nat):Int),()):=by
 have hq:nA R t (i:Int)=_:=call (A2G R L t (i:Int))
 have e1:Ab .i64 ((i:Int)+1)=((i+1:Nat):Int):=AX6 1 (by omega)
 have e2:Ab .i64 ((i:Int)+2)=((i+2:Nat):Int):=AX6 2 (by omega)
 have e3:Ab .i64 ((i:Int)+3)=((i+3:Nat):Int):=AX6 3 (by omega)
 rw[hq,e1,e2,e3]
 simp only[nn,tn,zT (show i < t.length by omega),zT (show i+1 < t.length by omega),zT (show i+2 < t.length by omega),zT h,Ah]
 rw[A9C .i64 (by decide) (by decide)]
theorem Aw6 (t:List UInt8) (h:4≤t.length):lT R t=some (((wLE t 0:Nat):Int),()):=by
 have hq:lT R t=_:=call (Af4 R L t)
 rw[hq]
 simp only[show Aq 0=0 from rfl,show Aq 1=1 from rfl,show Aq 2=2 from rfl,show Aq 3=3 from rfl,zT (show 0 < t.length by omega),zT (show 1 < t.length by omega),zT (show 2 < t.length by omega),zT (show 3 < t.length by omega),Ah]
 rw[show yU .or .u32 _ _=_ from A9C .u32 (by decide) (by decide) t 0]
end Go.Rf.S

end
section
namespace Go.Rf.S
set_option maxRecDepth 100000
theorem A3P (v n:Nat) (hn:n≤8):tE R L (v:Int) (cl []) (n:Int) 0=some (ub (lit v n),())∧(lit v n).length=n:=
 yE (fun (o:List Nat) i=>tE R L (v:Int) (cl o) (n:Int) i) (stL v) (fun i o=>o.length=i) n (fun o=>some (ub o,()))
  (fun o _=>by
   have hq:tE R L (v:Int) (cl o) (n:Int) (n:Nat)=_:=round (by kernel_rfl) (AU1 R L (v:Int) (cl o) (n:Int) (n:Nat))
   show tE R L (v:Int) (cl o) (n:Int) (n:Nat)=_
   rw[hq,Ak (show ¬ ((n:Int) < (n:Int)) by omega),AU6];rfl)
  (fun o i hi ho=>by
   have hq:tE R L (v:Int) (cl o) (n:Int) (i:Nat)=_:=round (by kernel_rfl) (AU1 R L (v:Int) (cl o) (n:Int) (i:Nat))
   refine⟨?_,by unfold stL;rw[Ae,ho];rfl⟩
   show tE R L (v:Int) (cl o) (n:Int) (i:Nat)=_
   have e8:Ab .i64 ((8:Int) * (i:Int))=((8 * i:Nat):Int):=by rw[yI (by omega) (by omega)];omega
   rw[hq,Ai (show (i:Int) < (n:Int) by omega),e8,Ak (show ¬ (((8 * i:Nat):Int) < 0) by omega),tn,show A0 (8 * i) (Am .i64)=8 * i from Au (by simp only[Am];omega),mE,uY,
    wC (by rw[oI];simp only[Ad,Af];omega),zB (by omega)]
   simp only[Ah,Aj]
   rw[show [((v / 2 ^ (8 * i) % 256:Nat):Int)]=cl [v / 2 ^ (8 * i) % 256] from rfl,AJ1]
   rfl)
  [] rfl
theorem cL (v n:Nat) (hn:n≤8):wI R (v:Int) (n:Int)=some (ub (lit v n),()):=by
 have hq:wI R (v:Int) (n:Int)=_:=call (A4n R L (v:Int) (n:Int))
 exact hq.trans (A3P v n hn).1
theorem lJ (v n:Nat) (hn:n≤8):(lit v n).length=n:=(A3P v n hn).2
theorem AO3 {a b:List UInt8} {i:Nat} (h:i < a.length):bt (a++b) i=bt a i:=by
 unfold bt;rw[Ag,Ag,Bb h]
theorem AN6 {a b:List UInt8} {i:Nat} (h:a.length≤i):bt (a++b) i=bt b (i - a.length):=by
 unfold bt;rw[Ag,Ag,AI h]
theorem AA5 {a b:List UInt8} {i:Nat} (h:i+3 < a.length):wLE (a++b) i=wLE a i:=by
 unfold wLE;rw[AO3 (by omega),AO3 (by omega),AO3 (by omega),AO3 (by omega)]
theorem Am7 {a b:List UInt8} {i j:Nat} (h:i=a.length+j):wLE (a++b) i=wLE b j:=by
 unfold wLE;rw[AN6 (by omega),AN6 (by omega),AN6 (by omega),AN6 (by omega),show i - a.length=j by omega,show i+1 - a.length=j+1 by omega,show i+2 - a.length=j+2 by omega,show i+3 - a.length=j+3 by omega]
theorem A7t {t:List UInt8} {i:Nat}:wLE (t.drop i) 0=wLE t i:=by
 have:∀ j,bt (t.drop i) j=bt t (i+j):=fun j=>by unfold bt;rw[Ag,Ag,AL]
 unfold wLE
 rw[this,this,this,this]
 simp only[Nat.add_zero,Bj]
theorem A5K {a b n:Nat} (h:a < 2 ^ n):a ||| b * 2 ^ n=a+b * 2 ^ n:=by
 rw[Nat.or_comm,Bk b,← AW h,Nat.add_comm]
theorem BE5 (v:Nat) (hv:v < 4294967296):wLE (ub (lit v 4)) 0=v:=by
 have e:ub (lit v 4)=[Ax (v / 2 ^ 0 % 256),Ax (v / 2 ^ 8 % 256),Ax (v / 2 ^ 16 % 256),Ax (v / 2 ^ 24 % 256)]:=rfl
 have b:∀ n:Nat,(Ax (n % 256)).toNat=n % 256:=fun n=>by
  rw[B2];exact Nat.mod_mod _ _
 rw[e]
 unfold wLE bt
 show (Ax (v / 2 ^ 0 % 256)).toNat ||| (Ax (v / 2 ^ 8 % 256)).toNat * 2 ^ 8 ||| (Ax (v / 2 ^ 16 % 256)).toNat * 2 ^ 16 ||| (Ax (v / 2 ^ 24 % 256)).toNat * 2 ^ 24=v
 rw[b,b,b,b,A5K (n:=8) (by omega),A5K (n:=16) (by omega),A5K (n:=24) (by omega)]
 omega
theorem BI6 (key nonce:List UInt8) (count:Nat) (hc:count < 4294967296):Wd 16 (chI key nonce count):=⟨rfl,fun x hx=>by
 unfold chI at hx
 simp only[AO,B9,or_false] at hx
 rcases hx with rfl|rfl|rfl|rfl|rfl|rfl|rfl|rfl|rfl|rfl|rfl|rfl|rfl|rfl|rfl|rfl<;>first|exact BJ0 _ _|exact hc⟩
theorem A9u (key nonce:List UInt8) (count:Int) (y:List Nat):
  vJ R L key nonce count (cl y) 0=xT R L key nonce count (cl (xO (fun i y=>y.set i (wLE exC (4 * i))) 4 0 y)) 0:=
 (yE (fun (y:List Nat) i=>vJ R L key nonce count (cl y) i) (fun i y=>y.set i (wLE exC (4 * i))) (fun _ _=>True) 4 (fun y=>xT R L key nonce count (cl y) 0)
  (fun y _=>by
   have hq:vJ R L key nonce count (cl y) (4:Nat)=_:=round (by kernel_rfl) (AE9 R L key nonce count (cl y) (4:Nat))
   show vJ R L key nonce count (cl y) (4:Nat)=_
   rw[hq];rfl)
  (fun y i hi _=>by
   have hq:vJ R L key nonce count (cl y) (i:Nat)=_:=round (by kernel_rfl) (AE9 R L key nonce count (cl y) (i:Nat))
   refine⟨?_,trivial⟩
   show vJ R L key nonce count (cl y) (i:Nat)=_
   have e4:Ab .i64 ((4:Int) * (i:Int))=((4 * i:Nat):Int):=by rw[yI (by omega) (by omega)];omega
   rw[hq,show decide ((i:Int) < 4)=true from Ai (by omega),e4,show nA R [101,120,112,97,110,100,32,51,50,45,98,121,116,101,32,107] ((4 * i:Nat):Int)=some (((wLE exC (4 * i):Nat):Int),()) from A1e exC (4 * i) (by show 4 * i+3 < 16;omega) (by omega),zB (by omega)]
   simp only[nn,tn,Ah,Ac]
   rw[zT (show i < 16 by omega),uB]
   rfl)
  y trivial).1
theorem BE0 (key nonce:List UInt8) (hk:key.length=32) (count:Nat) (y:List Nat):
  xT R L key nonce (count:Int) (cl y) 0=xR R L nonce (cl ((xO (fun i y=>y.set (4+i) (wLE key (4 * i))) 8 0 y).set 12 count)) 0:=
 (yE (fun (y:List Nat) i=>xT R L key nonce (count:Int) (cl y) i) (fun i y=>y.set (4+i) (wLE key (4 * i))) (fun _ _=>True) 8 (fun y=>xR R L nonce (cl (y.set 12 count)) 0)
  (fun y _=>by
   have hq:xT R L key nonce (count:Int) (cl y) (8:Nat)=_:=round (by kernel_rfl) (AF4 R L key nonce (count:Int) (cl y) (8:Nat))
   show xT R L key nonce (count:Int) (cl y) (8:Nat)=_
   rw[hq,uB];rfl)
  (fun y i hi _=>by
   have hq:xT R L key nonce (count:Int) (cl y) (i:Nat)=_:=round (by kernel_rfl) (AF4 R L key nonce (count:Int) (cl y) (i:Nat))
   refine⟨?_,trivial⟩
   show xT R L key nonce (count:Int) (cl y) (i:Nat)=_
   have e4:Ab .i64 ((4:Int) * (i:Int))=((4 * i:Nat):Int):=by rw[yI (by omega) (by omega)];omega
   have e5:Ab .i64 ((4:Int)+(i:Int))=((4+i:Nat):Int):=by rw[yI (by omega) (by omega)];omega
   rw[hq,show decide ((i:Int) < 8)=true from Ai (by omega),e4,e5,A1e key (4 * i) (by omega) (by omega),zB (by omega)]
   simp only[nn,tn,Ah,Ac]
   rw[zT (show 4+i < 16 by omega),uB]
   rfl)
  y trivial).1
theorem BD6 (nonce:List UInt8) (hk:nonce.length=12) (y:List Nat):
  xR R L nonce (cl y) 0=yS R L (cl (xO (fun i y=>y.set (13+i) (wLE nonce (4 * i))) 3 0 y)) (cl (xO (fun i y=>y.set (13+i) (wLE nonce (4 * i))) 3 0 y)) 0:=
 (yE (fun (y:List Nat) i=>xR R L nonce (cl y) i) (fun i y=>y.set (13+i) (wLE nonce (4 * i))) (fun _ _=>True) 3 (fun y=>yS R L (cl y) (cl y) 0)
  (fun y _=>by
   have hq:xR R L nonce (cl y) (3:Nat)=_:=round (by kernel_rfl) (AE1 R L nonce (cl y) (3:Nat))
   show xR R L nonce (cl y) (3:Nat)=_
   rw[hq];rfl)
  (fun y i hi _=>by
   have hq:xR R L nonce (cl y) (i:Nat)=_:=round (by kernel_rfl) (AE1 R L nonce (cl y) (i:Nat))
   refine⟨?_,trivial⟩
   show xR R L nonce (cl y) (i:Nat)=_
   have e4:Ab .i64 ((4:Int) * (i:Int))=((4 * i:Nat):Int):=by rw[yI (by omega) (by omega)];omega
   have e5:Ab .i64 ((13:Int)+(i:Int))=((13+i:Nat):Int):=by rw[yI (by omega) (by omega)];omega
   rw[hq,show decide ((i:Int) < 3)=true from Ai (by omega),e4,e5,A1e nonce (4 * i) (by omega) (by omega),zB (by omega)]
   simp only[nn,tn,Ah,Ac]
   rw[zT (show 13+i < 16 by omega),uB]
   rfl)
  y trivial).1
theorem BJ8 (key nonce:List UInt8) (hk:key.length=32) (hn:nonce.length=12) (count:Nat):
  rT R key nonce (count:Int)=yS R L (cl (chI key nonce count)) (cl (chI key nonce count)) 0:=by
 have hq:rT R key nonce (count:Int)=_:=call (Aw9 R L key nonce (count:Int))
 refine hq.trans ((A9u key nonce (count:Int) (Aa 16 0)).trans ((BE0 key nonce hk count _).trans ((BD6 nonce hn _).trans ?_)))
 rfl
theorem BF1 {k:Nat} {y:List Nat} (h:Wd 16 y):Wd 16 (rk k y):=BE8 (BE8 (BE8 (BE8 h)))
theorem A70 (v7:List Int) (y:List Nat) (hy:Wd 16 y) (v12:Int):
  vQ R L v7 (cl y) v12 0=xU R L v7 (cl (rk 0 y)) v12 0:=
 (yE (fun (y:List Nat) i=>vQ R L v7 (cl y) v12 i) (fun i y=>qs i (4+(i+0) % 4) (8+(i+2 * 0) % 4) (12+(i+3 * 0) % 4) y) (fun _ y=>Wd 16 y) 4 (fun y=>xU R L v7 (cl y) v12 0)
  (fun y _=>by
   have hq:vQ R L v7 (cl y) v12 (4:Nat)=_:=round (by kernel_rfl) (AF2 R L v7 (cl y) v12 (4:Nat))
   show vQ R L v7 (cl y) v12 (4:Nat)=_
   rw[hq];rfl)
  (fun y i hi hy=>by
   have hq:vQ R L v7 (cl y) v12 (i:Nat)=_:=round (by kernel_rfl) (AF2 R L v7 (cl y) v12 (i:Nat))
   refine⟨?_,BE8 hy⟩
   show vQ R L v7 (cl y) v12 (i:Nat)=_
   have e4:Ab .i64 ((4:Int)+(i:Int))=((4+(i+0) % 4:Nat):Int):=by rw[yI (by omega) (by omega)];omega
   have e8:Ab .i64 ((8:Int)+(i:Int))=((8+(i+2 * 0) % 4:Nat):Int):=by rw[yI (by omega) (by omega)];omega
   have e12:Ab .i64 ((12:Int)+(i:Int))=((12+(i+3 * 0) % 4:Nat):Int):=by rw[yI (by omega) (by omega)];omega
   rw[hq,show decide ((i:Int) < 4)=true from Ai (by omega),e4,e8,e12,A6B y hy _ _ _ _ (by omega) (by omega) (by omega) (by omega),zB (by omega)]
   rfl)
  y hy).1
theorem tm4 (a:Nat):AA (a:Int) 4=((a % 4:Nat):Int):=A6l a 4
theorem A8O (v7:List Int) (y:List Nat) (hy:Wd 16 y) (v12:Int):
  xU R L v7 (cl y) v12 0=yS R L v7 (cl (rk 1 y)) (Ab .i64 (v12+1)):=
 (yE (fun (y:List Nat) i=>xU R L v7 (cl y) v12 i) (fun i y=>qs i (4+(i+1) % 4) (8+(i+2 * 1) % 4) (12+(i+3 * 1) % 4) y) (fun _ y=>Wd 16 y) 4 (fun y=>yS R L v7 (cl y) (Ab .i64 (v12+1)))
  (fun y _=>by
   have hq:xU R L v7 (cl y) v12 (4:Nat)=_:=round (by kernel_rfl) (AC3 R L v7 (cl y) v12 (4:Nat))
   show xU R L v7 (cl y) v12 (4:Nat)=_
   rw[hq];rfl)
  (fun y i hi hy=>by
   have hq:xU R L v7 (cl y) v12 (i:Nat)=_:=round (by kernel_rfl) (AC3 R L v7 (cl y) v12 (i:Nat))
   refine⟨?_,BE8 hy⟩
   show xU R L v7 (cl y) v12 (i:Nat)=_
   have f1:Ab .i64 ((i:Int)+1)=((i+1:Nat):Int):=zB (by omega)
   have f2:Ab .i64 ((i:Int)+2)=((i+2 * 1:Nat):Int):=AX6 2 (by omega)
   have f3:Ab .i64 ((i:Int)+3)=((i+3 * 1:Nat):Int):=AX6 3 (by omega)
   have e4:Ab .i64 ((4:Int)+(((i+1) % 4:Nat):Int))=((4+(i+1) % 4:Nat):Int):=by rw[yI (by omega) (by omega)];omega
   have e8:Ab .i64 ((8:Int)+(((i+2 * 1) % 4:Nat):Int))=((8+(i+2 * 1) % 4:Nat):Int):=by rw[yI (by omega) (by omega)];omega
   have e12:Ab .i64 ((12:Int)+(((i+3 * 1) % 4:Nat):Int))=((12+(i+3 * 1) % 4:Nat):Int):=by rw[yI (by omega) (by omega)];omega
   rw[hq,show decide ((i:Int) < 4)=true from Ai (by omega),f1,f2,f3,tm4,tm4,tm4,e4,e8,e12,A6B y hy _ _ _ _ (by omega) (by omega) (by omega) (by omega)]
   rfl)
  y hy).1
theorem A1Z (v7:List Int) (y:List Nat) (hy:Wd 16 y):
  yS R L v7 (cl y) 0=xQ R L v7 (cl (r10 y)) (cl []) 0∧Wd 16 (r10 y):=
 yE (fun (y:List Nat) i=>yS R L v7 (cl y) i) (fun _ y=>rk 1 (rk 0 y)) (fun _ y=>Wd 16 y) 10 (fun y=>xQ R L v7 (cl y) (cl []) 0)
  (fun y _=>by
   have hq:yS R L v7 (cl y) (10:Nat)=_:=round (by kernel_rfl) (AD5 R L v7 (cl y) (10:Nat))
   show yS R L v7 (cl y) (10:Nat)=_
   rw[hq];rfl)
  (fun y i hi hy=>by
   have hq:yS R L v7 (cl y) (i:Nat)=_:=round (by kernel_rfl) (AD5 R L v7 (cl y) (i:Nat))
   refine⟨?_,BF1 (BF1 hy)⟩
   show yS R L v7 (cl y) (i:Nat)=_
   rw[hq,show decide ((i:Int) < 10)=true from Ai (by omega)]
   simp only[Ah]
   rw[A70 v7 y hy,A8O v7 _ (BF1 hy),zB (by omega)])
  y hy
end Go.Rf.S

end
section
namespace Go.Rf.S
set_option maxRecDepth 100000
theorem A5h (v8:List Int) (k:Nat) (hk:k < 2) (v41:Int) (y:List Nat) (hy:Wd 16 y):
  tG R L v8 (cl y) (k:Int) v41 (k:Int) 0=pT R L v8 (cl (rk k y)) v41 ((k+1:Nat):Int):=
 (yE (fun (y:List Nat) i=>tG R L v8 (cl y) (k:Int) v41 (k:Int) i) (fun i y=>qs i (4+(i+k) % 4) (8+(i+2 * k) % 4) (12+(i+3 * k) % 4) y) (fun _ y=>Wd 16 y) 4 (fun y=>pT R L v8 (cl y) v41 ((k+1:Nat):Int))
  (fun y _=>by
   have hq:tG R L v8 (cl y) (k:Int) v41 (k:Int) (4:Nat)=_:=round (by kernel_rfl) (AU2 R L v8 (cl y) (k:Int) v41 (k:Int) (4:Nat))
   show tG R L v8 (cl y) (k:Int) v41 (k:Int) (4:Nat)=_
   rw[hq,show decide (((4:Nat):Int) < 4)=false from by decide]
   simp only[Aj]
   rw[zB (i:=k) (by omega)])
  (fun y i hi hy=>by
   have hq:tG R L v8 (cl y) (k:Int) v41 (k:Int) (i:Nat)=_:=round (by kernel_rfl) (AU2 R L v8 (cl y) (k:Int) v41 (k:Int) (i:Nat))
   refine⟨?_,BE8 hy⟩
   show tG R L v8 (cl y) (k:Int) v41 (k:Int) (i:Nat)=_
   have f1:Ab .i64 ((i:Int)+(k:Int))=((i+k:Nat):Int):=Ad8 (by simp only[uV];omega)
   have g2:Ab .i64 ((2:Int) * (k:Int))=((2 * k:Nat):Int):=by rw[yI (by omega) (by omega)];omega
   have g3:Ab .i64 ((3:Int) * (k:Int))=((3 * k:Nat):Int):=by rw[yI (by omega) (by omega)];omega
   have f2:Ab .i64 ((i:Int)+((2 * k:Nat):Int))=((i+2 * k:Nat):Int):=Ad8 (by simp only[uV];omega)
   have f3:Ab .i64 ((i:Int)+((3 * k:Nat):Int))=((i+3 * k:Nat):Int):=Ad8 (by simp only[uV];omega)
   have e4:Ab .i64 ((4:Int)+(((i+k) % 4:Nat):Int))=((4+(i+k) % 4:Nat):Int):=by rw[yI (by omega) (by omega)];omega
   have e8:Ab .i64 ((8:Int)+(((i+2 * k) % 4:Nat):Int))=((8+(i+2 * k) % 4:Nat):Int):=by rw[yI (by omega) (by omega)];omega
   have e12:Ab .i64 ((12:Int)+(((i+3 * k) % 4:Nat):Int))=((12+(i+3 * k) % 4:Nat):Int):=by rw[yI (by omega) (by omega)];omega
   rw[hq,show decide ((i:Int) < 4)=true from Ai (by omega),g2,g3,f1,f2,f3,tm4,tm4,tm4,e4,e8,e12,zB (by omega)]
   simp only[nn,tn,Ah,zT (show i < 16 by omega),zT (show 4+(i+k) % 4 < 16 by omega),zT (show 8+(i+2 * k) % 4 < 16 by omega),zT (show 12+(i+3 * k) % 4 < 16 by omega),zY]
   rw[A7M _ _ _ _ (hy.g _) (hy.g _) (hy.g _) (hy.g _)]
   simp only[Ac,uB]
   rfl)
  y hy).1
theorem A11 (v8:List Int) (y:List Nat) (hy:Wd 16 y):
  vN R L v8 (cl y) 0=vP R L v8 (cl (r10 y)) [] 0∧Wd 16 (r10 y):=
 yE (fun (y:List Nat) i=>vN R L v8 (cl y) i) (fun _ y=>rk 1 (rk 0 y)) (fun _ y=>Wd 16 y) 10 (fun y=>vP R L v8 (cl y) [] 0)
  (fun y _=>by
   have hq:vN R L v8 (cl y) (10:Nat)=_:=round (by kernel_rfl) (AU3 R L v8 (cl y) (10:Nat))
   show vN R L v8 (cl y) (10:Nat)=_
   rw[hq];rfl)
  (fun y i hi hy=>by
   have hq:vN R L v8 (cl y) (i:Nat)=_:=round (by kernel_rfl) (AU3 R L v8 (cl y) (i:Nat))
   refine⟨?_,BF1 (BF1 hy)⟩
   show vN R L v8 (cl y) (i:Nat)=_
   have q2:∀ (y:List Int) (v:Int) (w:Int),pT R L v8 y v w=_:=fun y v w=>round (by kernel_rfl) (Au1 R L v8 y v w)
   have e0:=A5h v8 0 (by decide) (i:Int) y hy
   have e1:=A5h v8 1 (by decide) (i:Int) _ (BF1 (k:=0) hy)
   rw[hq,show decide ((i:Int) < 10)=true from Ai (by omega)]
   simp only[Ah]
   rw[q2,show decide ((0:Int) < 2)=true from by decide]
   simp only[Ah]
   refine AQ e0 ?_
   rw[q2,show decide (((0+1:Nat):Int) < 2)=true from by decide]
   simp only[Ah]
   refine AQ e1 ?_
   rw[q2,show decide (((1+1:Nat):Int) < 2)=false from by decide,zB (by omega)]
   rfl)
  y hy
theorem A4x (x y:List Nat) (hx:Wd 16 x) (hy:Wd 16 y):
  vP R L (cl x) (cl y) (ub []) 0=some (ub (xO (stF x y) 16 0 []),())∧(xO (stF x y) 16 0 []).length=4 * 16:=
 yE (fun (o:List Nat) i=>vP R L (cl x) (cl y) (ub o) i) (stF x y) (fun i o=>o.length=4 * i) 16 (fun o=>some (ub o,()))
  (fun o _=>by
   have hq:vP R L (cl x) (cl y) (ub o) (16:Nat)=_:=round (by kernel_rfl) (AS3 R L (cl x) (cl y) (ub o) (16:Nat))
   show vP R L (cl x) (cl y) (ub o) (16:Nat)=_
   rw[hq];rfl)
  (fun o i hi ho=>by
   have hq:vP R L (cl x) (cl y) (ub o) (i:Nat)=_:=round (by kernel_rfl) (AS3 R L (cl x) (cl y) (ub o) (i:Nat))
   have hl:=lJ ((y.getD i 0+x.getD i 0) % 4294967296) 4 (by decide)
   refine⟨?_,by unfold stF;rw[Ae,ho,hl];omega⟩
   show vP R L (cl x) (cl y) (ub o) (i:Nat)=_
   have hul:∀ l:List Nat,(ub l).length=l.length:=fun l=>At _
   rw[hq,show decide ((i:Int) < 16)=true from Ai (by omega),zB (by omega)]
   simp only[nn,tn,Ah,zT (show i < 16 from hi),zY,A9Q]
   rw[tV (B8 (wA _) (by decide)),show wI R _ 4=_ from cL ((y.getD i 0+x.getD i 0) % 4294967296) 4 (by decide)]
   simp only[Ac]
   rw[hul,hul,hl,wC (by omega)]
   simp only[Ah]
   unfold stF ub
   rw[AK])
  [] rfl
theorem A35 (V:List UInt8) (hV:V.length=64) (y0:List Nat) (hy:y0.length=16):
  uI R L V (cl y0) (cl y0) 0=vN R L (cl (xO (fun i y=>y.set i (wLE V (4 * i))) 16 0 y0)) (cl (xO (fun i y=>y.set i (wLE V (4 * i))) 16 0 y0)) 0:=
 (yE (fun (y:List Nat) i=>uI R L V (cl y) (cl y) i) (fun i y=>y.set i (wLE V (4 * i))) (fun _ y=>y.length=16) 16 (fun y=>vN R L (cl y) (cl y) 0)
  (fun y _=>by
   have hq:uI R L V (cl y) (cl y) (16:Nat)=_:=round (by kernel_rfl) (AR8 R L V (cl y) (cl y) (16:Nat))
   show uI R L V (cl y) (cl y) (16:Nat)=_
   rw[hq];rfl)
  (fun y i hi hy=>by
   have hq:uI R L V (cl y) (cl y) (i:Nat)=_:=round (by kernel_rfl) (AR8 R L V (cl y) (cl y) (i:Nat))
   refine⟨?_,by rw[A5];exact hy⟩
   show uI R L V (cl y) (cl y) (i:Nat)=_
   have e4:Ab .i64 ((4:Int) * (i:Int))=((4 * i:Nat):Int):=by rw[yI (by omega) (by omega)];omega
   have hs:(y.set i (wLE V (4 * i))).getD i 0=wLE V (4 * i):=by
    rw[Ag,AG,A7 rfl,A7 (by omega)];rfl
   rw[hq,show decide ((i:Int) < 16)=true from Ai (by omega),e4,zB (by omega)]
   simp only[nn,tn,Ah]
   rw[A3X (Ao _),A3X (show 4 * i≤V.length by omega),AN,Aw6 _ (by rw[A1];omega),A7t]
   simp only[Ah,Ac]
   rw[zT (show i < 16 from hi),uB,zY,hs,uB]
   rfl)
  y0 hy).1
theorem A8Y (key nonce:List UInt8) (hk:key.length=32) (hn:nonce.length=12) (count:Nat) (hc:count < 4294967296):
  xO (fun i y=>y.set i (wLE (((exC++key)++ub (lit count 4))++nonce) (4 * i))) 16 0 (Aa 16 0)=chI key nonce count:=by
 have hl:(ub (lit count 4)).length=4:=by unfold ub;rw[At,lJ _ _ (by decide)]
 have he:exC.length=16:=rfl
 have h1:(exC++key).length=48:=by rw[Ae];omega
 have h2:((exC++key)++ub (lit count 4)).length=52:=by rw[Ae];omega
 show [wLE _ 0,wLE _ 4,wLE _ 8,wLE _ 12,wLE _ 16,wLE _ 20,wLE _ 24,wLE _ 28,wLE _ 32,wLE _ 36,wLE _ 40,wLE _ 44,wLE _ 48,wLE _ 52,wLE _ 56,wLE _ 60]=_
 have a0:∀ i,i+3 < 16→wLE (((exC++key)++ub (lit count 4))++nonce) i=wLE exC i:=fun i hi=>by
  rw[AA5 (by omega),AA5 (by omega),AA5 (by omega)]
 have a1:∀ j,j+3 < 32→wLE (((exC++key)++ub (lit count 4))++nonce) (16+j)=wLE key j:=fun j hj=>by
  rw[AA5 (by omega),AA5 (by omega),Am7 (j:=j) (by omega)]
 have a2:wLE (((exC++key)++ub (lit count 4))++nonce) 48=count:=by
  rw[AA5 (by omega),Am7 (j:=0) (by omega),BE5 _ hc]
 have a3:∀ j,wLE (((exC++key)++ub (lit count 4))++nonce) (52+j)=wLE nonce j:=fun j=>by
  rw[Am7 (j:=j) (by omega)]
 rw[a0 0 (by decide),a0 4 (by decide),a0 8 (by decide),a0 12 (by decide),a1 0 (by decide),a1 4 (by decide),a1 8 (by decide),a1 12 (by decide),a1 16 (by decide),a1 20 (by decide),a1 24 (by decide),a1 28 (by decide),a2,a3 0,a3 4,a3 8]
 rfl
theorem Am9 (key nonce:List UInt8) (hk:key.length=32) (hn:nonce.length=12) (count:Nat) (hc:count < 4294967296):
  eA R key nonce (count:Int)=some (ub (chO (chI key nonce count)),())∧(ub (chO (chI key nonce count))).length=64:=by
 have hq:eA R key nonce (count:Int)=_:=call (A4I R L key nonce (count:Int))
 have hl:(ub (lit count 4)).length=4:=by unfold ub;rw[At,lJ _ _ (by decide)]
 have he:exC.length=16:=rfl
 have h1:(exC++key).length=48:=by rw[Ae];omega
 have h2:((exC++key)++ub (lit count 4)).length=52:=by rw[Ae];omega
 have hW:=BI6 key nonce count hc
 obtain⟨r1,r2⟩:=A11 (cl (chI key nonce count)) _ hW
 obtain⟨b1,b2⟩:=A4x _ _ hW r2
 refine⟨?_,by unfold ub;rw[At];exact b2⟩
 rw[hq,show wI R (count:Int) 4=_ from cL count 4 (by decide)]
 show cond (zX (exC.length+key.length)) (cond (zX ((exC++key).length+(ub (lit count 4)).length)) (cond (zX (((exC++key)++ub (lit count 4)).length+nonce.length)) (uI R L (((exC++key)++ub (lit count 4))++nonce) (cl (Aa 16 0)) (cl (Aa 16 0)) 0) none) none) none=_
 rw[wC (by omega),wC (by omega),wC (by omega)]
 simp only[Ah]
 rw[A35 _ (by rw[Ae];omega) _ rfl,A8Y key nonce hk hn count hc,r1]
 exact b1
end Go.Rf.S

end
section
namespace Go.Rf.S
set_option maxRecDepth 100000
theorem A5y (o:List Nat) (ho:o.length≤1048576) (w:Nat):kM R (cl o) (w:Int)=some (cl (o++lit w 4),()):=by
 have hq:kM R (cl o) (w:Int)=_:=call (Az9 R L (cl o) (w:Int))
 have m24:A0 (Aq 24) (Am .i64)=24:=rfl
 have m16:A0 (Aq 16) (Am .i64)=16:=rfl
 have m8:A0 (Aq 8) (Am .i64)=8:=rfl
 rw[hq,m24,m16,m8,mE,mE,mE,uY,uY,uY,uY,wC (by rw[oI];simp only[Ad,Af];omega)]
 simp only[Ah]
 rw[show [((w % 256:Nat):Int),((w / 2 ^ 8 % 256:Nat):Int),((w / 2 ^ 16 % 256:Nat):Int),((w / 2 ^ 24 % 256:Nat):Int)]=cl [w % 256,w / 2 ^ 8 % 256,w / 2 ^ 16 % 256,w / 2 ^ 24 % 256] from rfl,AJ1]
 have:lit w 4=[w / 2 ^ 0 % 256,w / 2 ^ 8 % 256,w / 2 ^ 16 % 256,w / 2 ^ 24 % 256]:=rfl
 rw[this,AJ,AP]
theorem A1v (x y:List Nat) (hx:Wd 16 x) (hy:Wd 16 y):
  xQ R L (cl x) (cl y) (cl []) 0=some (ub (xO (stF x y) 16 0 []),())∧(xO (stF x y) 16 0 []).length=4 * 16:=
 yE (fun (o:List Nat) i=>xQ R L (cl x) (cl y) (cl o) i) (stF x y) (fun i o=>o.length=4 * i) 16 (fun o=>some (ub o,()))
  (fun o _=>by
   have hq:xQ R L (cl x) (cl y) (cl o) (16:Nat)=_:=round (by kernel_rfl) (AC6 R L (cl x) (cl y) (cl o) (16:Nat))
   show xQ R L (cl x) (cl y) (cl o) (16:Nat)=_
   rw[hq,show decide (((16:Nat):Int) < 16)=false from by decide,AU6];rfl)
  (fun o i hi ho=>by
   have hq:xQ R L (cl x) (cl y) (cl o) (i:Nat)=_:=round (by kernel_rfl) (AC6 R L (cl x) (cl y) (cl o) (i:Nat))
   have hl:=lJ ((y.getD i 0+x.getD i 0) % 4294967296) 4 (by decide)
   have ay:=hy.g i;have ax:=hx.g i
   refine⟨?_,by unfold stF;rw[Ae,ho,hl];omega⟩
   show xQ R L (cl x) (cl y) (cl o) (i:Nat)=_
   rw[hq,show decide ((i:Int) < 16)=true from Ai (by omega),zB (by omega)]
   simp only[nn,tn,Ah,zT (show i < 16 from hi),zY]
   rw[Ad8 (by simp only[uV];omega),m32 (by omega),A5y o (by omega)]
   rfl)
  [] rfl
theorem Ak9 (key nonce:List UInt8) (hk:key.length=32) (hn:nonce.length=12) (count:Nat) (hc:count < 4294967296):
  rT R key nonce (count:Int)=some (ub (chO (chI key nonce count)),()):=by
 have hW:=BI6 key nonce count hc
 obtain⟨r1,r2⟩:=A1Z (cl (chI key nonce count)) _ hW
 rw[BJ8 key nonce hk hn count,r1]
 exact (A1v _ _ hW r2).1
end Go.Rf.S

end
section
namespace Go.Rf.S
set_option maxRecDepth 100000
def bn (t:List UInt8):List Nat:=A9 Bq t
theorem BP4 (t:List UInt8):A9 (fun b:UInt8=>((b.toNat:Nat):Int)) t=cl (bn t):=by
 unfold cl bn;rw[Bi];rfl
theorem A88 (t:List UInt8):(bn t).length=t.length:=At _
theorem BD2 (t:List UInt8) (i:Nat):(bn t).getD i 0=bt t i:=by
 unfold bn bt
 rw[Ag,Ag,Bc]
 cases t[i]?<;>rfl
theorem A5J {a b:List UInt8} (hl:a.length=b.length) (h:∀ i,i < a.length→bt a i=bt b i):a=b:=by
 apply List.ext_getElem hl
 intro i h1 h2
 have:=h i h1
 unfold bt at this
 rw[Ag,Ag,Be h1,Be h2] at this
 exact UInt8.toNat_inj.1 this
theorem BK4 {l:List Nat} {i:Nat} (h:l.getD i 0 < 256):bt (ub l) i=l.getD i 0:=by
 unfold bt ub
 rw[Ag,Ag,Bc]
 rw[Ag] at h
 cases e:l[i]? with
 | none=>rfl
 | some x=>
  rw[e] at h
  have h:x < 256:=h
  show (Ax x).toNat=x
  rw[B2]
  exact Aw h
theorem AL6:∀ (a b:List UInt8),a.length≤b.length→(A3r a b).length=a.length
 | [],_,_=>rfl
 | x :: a,[],h=>by simp at h
 | x :: a,y :: b,h=>by
  show (A3r a b).length+1=_
  rw[AL6 a b (by simpa using h)];rfl
theorem bB (x:UInt8) (a:List UInt8) (i:Nat):bt (x :: a) (i+1)=bt a i:=rfl
theorem Ar6:∀ (a b:List UInt8) (i:Nat),i < a.length→a.length≤b.length→bt (A3r a b) i=bt a i ^^^ bt b i
 | [],_,_,h,_=>by simp at h
 | x :: a,[],_,_,h=>by simp at h
 | x :: a,y :: b,0,_,h=>by
  show (x ^^^ y).toNat=_
  exact UInt8.toNat_xor x y
 | x :: a,y :: b,i+1,hi,h=>by
  show bt ((x ^^^ y) :: A3r a b) (i+1)=_
  rw[bB,bB,bB]
  exact Ar6 a b i (by simpa using hi) (by simpa using h)
def stX (b:List UInt8) (i:Nat) (y:List Nat):List Nat:=y.set i (y.getD i 0 ^^^ bt b i)
theorem A9h {a b:Nat} (ha:a < 256) (hb:b < 256):a ^^^ b < 256:=Nat.xor_lt_two_pow (n:=8) ha hb
theorem BQ1 (a b:List UInt8) (h:a.length≤b.length) (hb:b.length≤4294967296):A1A R a b=some (A3r a b,()):=by
 have hq:A1A R a b=_:=call (BB4 R L a b)
 have hlp:=yE (fun (y:List Nat) i=>nJ R L b (cl y) (a.length:Int) i) (stX b)
  (fun i y=>y.length=a.length∧∀ j,y.getD j 0=if j < i then bt a j ^^^ bt b j else bt a j) a.length (fun y=>some (ub y,()))
  (fun y _=>by
   have hq:nJ R L b (cl y) (a.length:Int) (a.length:Nat)=_:=round (by kernel_rfl) (Ay2 R L b (cl y) (a.length:Int) (a.length:Nat))
   show nJ R L b (cl y) (a.length:Int) (a.length:Nat)=_
   rw[hq,Ak (show ¬ ((a.length:Int) < (a.length:Int)) by omega),AU6];rfl)
  (fun y i hi hy=>by
   obtain⟨h1,h2⟩:=hy
   have hq:nJ R L b (cl y) (a.length:Int) (i:Nat)=_:=round (by kernel_rfl) (Ay2 R L b (cl y) (a.length:Int) (i:Nat))
   have hyi:=h2 i
   rw[A4 (Nat.lt_irrefl i)] at hyi
   refine⟨?_,by unfold stX;rw[A5];exact h1,fun j=>?_⟩
   ·show nJ R L b (cl y) (a.length:Int) (i:Nat)=_
    rw[hq,Ai (show (i:Int) < (a.length:Int) by omega),zB (by omega)]
    simp only[nn,tn,Ah,oI,h1,zT hi,zT (show i < b.length by omega),zY]
    have e:yU .xor .u8 ((y.getD i 0:Nat):Int) (((b.getD i 0).toNat:Nat):Int)=((y.getD i 0 ^^^ bt b i:Nat):Int):=A2O (k:=.u8) (by rw[hyi];exact sI a i) (sI b i)
    rw[e,uB]
    rfl
   ·unfold stX
    by_cases hj:j=i
    ·subst hj
     rw[A7 (Nat.lt_succ_self _),Ag,AG,A7 rfl,A7 (by omega),hyi];rfl
    ·rw[Ag,AG,A4 (fun e=>hj e.symm),← Ag,h2 j]
     by_cases hji:j < i
     ·rw[A7 hji,A7 (by omega)]
     ·rw[A4 hji,A4 (by omega)])
  (bn a) ⟨A88 a,fun j=>by rw[A4 (by omega),BD2]⟩
 obtain⟨e1,e2,e3⟩:=hlp
 rw[hq,BP4,oI,A88]
 refine AQ e1 ?_
 refine congrArg (fun x=>some (x,())) ?_
 apply A5J
 ·unfold ub;rw[At,e2,AL6 a b h]
 ·intro i hi
  have hi':i < a.length:=by unfold ub at hi;rw[At,e2] at hi;exact hi
  have hv:=e3 i
  rw[A7 hi'] at hv
  rw[BK4 (by rw[hv];exact A9h (sI _ _) (sI _ _)),hv,Ar6 a b i hi' h]
theorem AG9 {key nonce:List UInt8} (hk:key.length=32) (hn:nonce.length=12) {count:Nat} (hc:count < 4294967296):(chB key nonce count).length=64:=by
 unfold chB;exact (Am9 key nonce hk hn count hc).2
theorem AV6 (key nonce:List UInt8) (hk:key.length=32) (hn:nonce.length=12):∀ (n count:Nat) (t:List UInt8),t.length≤64 * n→count+n < 4294967296 →
  (chX key nonce n count t).length=t.length∧∀ i,i < t.length→bt (chX key nonce n count t) i=bt t i ^^^ bt (chB key nonce (count+i / 64)) (i % 64)
 | 0,count,t,ht,_=>by
  have:t.length=0:=by omega
  exact⟨by rw[this];rfl,fun i hi=>by omega⟩
 | n+1,count,t,ht,hc=>by
  unfold chX
  by_cases h0:t=[]
  ·subst h0
   rw[A7 rfl]
   exact⟨rfl,fun i hi=>by simp at hi⟩
  ·rw[A4 h0]
   have hB:(chB key nonce count).length=64:=AG9 hk hn (by omega)
   have hx:(A3r (t.take 64) (chB key nonce count)).length=(t.take 64).length:=AL6 _ _ (by rw[A6];omega)
   obtain⟨r1,r2⟩:=AV6 key nonce hk hn n (count+1) (t.drop 64) (by rw[A1];omega) (by omega)
   have htk:(t.take 64).length=min 64 t.length:=A6
   refine⟨by rw[Ae,hx,r1,A1,htk];omega,fun i hi=>?_⟩
   by_cases hi64:i < 64
   ·rw[AO3 (by rw[hx,htk];omega),Ar6 _ _ _ (by rw[htk];omega) (by rw[htk];omega),show i / 64=0 by omega,show i % 64=i by omega]
    have:bt (t.take 64) i=bt t i:=by unfold bt;rw[fQ t hi64]
    rw[this];rfl
   ·rw[AN6 (by rw[hx,htk];omega),hx,htk,show min 64 t.length=64 by omega,r2 (i - 64) (by rw[A1];omega)]
    have e1:bt (t.drop 64) (i - 64)=bt t i:=by unfold bt;rw[Ag,Ag,AL,show 64+(i - 64)=i by omega]
    rw[e1,show count+1+(i - 64) / 64=count+i / 64 by omega,show (i - 64) % 64=i % 64 by omega]
def B0 (key nonce:List UInt8) (count i:Nat):List UInt8:=chB key nonce (count+i / 64)
def stQ (key nonce:List UInt8) (count:Nat) (t:List UInt8) (i:Nat) (s:List Nat × List UInt8):List Nat × List UInt8:=
 (s.1++[bt t i ^^^ bt (if i % 64=0 then B0 key nonce count i else s.2) (i % 64)],if i % 64=0 then B0 key nonce count i else s.2)
theorem A53 (key nonce:List UInt8) (hk:key.length=32) (hn:nonce.length=12) (count:Nat) (t:List UInt8) (ht:t.length≤1073741824) (hc:count≤1024):
  fO R key nonce (count:Int) t=some (chX key nonce (t.length / 64+1) count t,()):=by
 have hq:fO R key nonce (count:Int) t=_:=call (A46 R L key nonce (count:Int) t)
 have hB:∀ i,i≤t.length→(B0 key nonce count i).length=64:=fun i hi=>AG9 hk hn (by omega)
 have hlp:=yE (fun (s:List Nat × List UInt8) i=>tD R L key nonce (count:Int) t (cl s.1) s.2 i) (stQ key nonce count t)
  (fun i s=>s.1.length=i∧(i % 64≠0→s.2=B0 key nonce count i)∧∀ j,j < i→s.1.getD j 0=bt t j ^^^ bt (B0 key nonce count j) (j % 64)) t.length (fun s=>some (ub s.1,()))
  (fun s _=>by
   have hq:tD R L key nonce (count:Int) t (cl s.1) s.2 (t.length:Nat)=_:=round (by kernel_rfl) (AS2 R L key nonce (count:Int) t (cl s.1) s.2 (t.length:Nat))
   show tD R L key nonce (count:Int) t (cl s.1) s.2 (t.length:Nat)=_
   rw[hq,Ak (show ¬ ((t.length:Int) < (t.length:Int)) by omega),AU6];rfl)
  (fun s i hi hs=>by
   obtain⟨h1,h2,h3⟩:=hs
   have hq:tD R L key nonce (count:Int) t (cl s.1) s.2 (i:Nat)=_:=round (by kernel_rfl) (AS2 R L key nonce (count:Int) t (cl s.1) s.2 (i:Nat))
   have hBi:=hB i (by omega)
   have em:AA (i:Int) 64=((i % 64:Nat):Int):=A6l i 64
   have ed:Bg (i:Int) 64=((i / 64:Nat):Int):=rfl
   have hm:i % 64 < 64:=Ay _ (by decide)
   have bx:∀ (B:List UInt8),yU .xor .u8 (((t.getD i 0).toNat:Nat):Int) (((B.getD (i % 64) 0).toNat:Nat):Int)=((bt t i ^^^ bt B (i % 64):Nat):Int):=fun B=>A2O (k:=.u8) (sI t i) (sI B _)
   have hcase:(if i % 64=0 then B0 key nonce count i else s.2)=B0 key nonce count i:=by
    by_cases h0:i % 64=0
    ·rw[A7 h0]
    ·rw[A4 h0,h2 h0]
   refine⟨?_,?_,?_,?_⟩
   ·show tD R L key nonce (count:Int) t (cl s.1) s.2 (i:Nat)=_
    rw[hq,Ai (show (i:Int) < (t.length:Int) by omega),em,ed]
    unfold stQ
    rw[hcase]
    by_cases h0:i % 64=0
    ·rw[show eqI ((i % 64:Nat):Int) 0=true from by rw[uS];exact Ai (by omega),tV (n:=i / 64) (by omega),Ad8 (by simp only[uV];omega),show rT R key nonce ((count+i / 64:Nat):Int)=some (B0 key nonce count i,()) from Ak9 key nonce hk hn _ (by omega)]
     simp only[nn,tn,Ah,Ac]
     rw[zT hi,hBi,zT hm,wC (by rw[oI];simp only[Ad,Af];omega),bx,zB (by omega)]
     simp only[Ah]
     rw[show [((bt t i ^^^ bt (B0 key nonce count i) (i % 64):Nat):Int)]=cl [bt t i ^^^ bt (B0 key nonce count i) (i % 64)] from rfl,AJ1]
    ·rw[show eqI ((i % 64:Nat):Int) 0=false from by rw[uS];exact Ak (by omega),h2 h0]
     simp only[nn,tn,Ah,Aj]
     rw[zT hi,hBi,zT hm,wC (by rw[oI];simp only[Ad,Af];omega),bx,zB (by omega)]
     simp only[Ah]
     rw[show [((bt t i ^^^ bt (B0 key nonce count i) (i % 64):Nat):Int)]=cl [bt t i ^^^ bt (B0 key nonce count i) (i % 64)] from rfl,AJ1]
   ·unfold stQ;rw[Ae,h1];rfl
   ·intro h0
    unfold stQ
    rw[hcase]
    unfold B0
    rw[show (i+1) / 64=i / 64 by omega]
   ·intro j hj
    unfold stQ
    rw[hcase]
    by_cases hji:j=i
    ·subst hji
     rw[Ag,AI (by omega),h1,Bl];rfl
    ·rw[Ag,Bb (by omega),← Ag]
     exact h3 j (by omega))
  ([],[]) ⟨rfl,fun h=>absurd rfl h,fun j hj=>by omega⟩
 obtain⟨e1,e2,_,e3⟩:=hlp
 obtain⟨r1,r2⟩:=AV6 key nonce hk hn (t.length / 64+1) count t (by omega) (by omega)
 rw[hq]
 refine AQ e1 ?_
 refine congrArg (fun x=>some (x,())) ?_
 have hul:∀ l:List Nat,(ub l).length=l.length:=fun l=>At _
 apply A5J
 ·rw[hul,e2,r1]
 ·intro i hi
  rw[hul,e2] at hi
  have hv:=e3 i hi
  rw[BK4 (by rw[hv];exact A9h (sI _ _) (sI _ _)),hv,r2 i hi]
  rfl
end Go.Rf.S

end
section

end
section
namespace Go.Rf.S
set_option maxRecDepth 100000
theorem A3i {x:List Nat} (h:x.length=5):x=[x.getD 0 0,x.getD 1 0,x.getD 2 0,x.getD 3 0,x.getD 4 0]:=by
 match x,h with
 | [a,b,c,d,e],_=>rfl
def crd (x:List Nat):List Nat:=car (x.getD 0 0) (x.getD 1 0) (x.getD 2 0) (x.getD 3 0) (x.getD 4 0)
def CAR (x:List Nat):List Nat:=crd (crd (crd x))
def vl (x:List Nat):Nat:=val (x.getD 0 0) (x.getD 1 0) (x.getD 2 0) (x.getD 3 0) (x.getD 4 0)
structure Can (x:List Nat):Prop where
 l:x.length=5
 b:Bd 67108864 x
theorem bd5 {B a b c d e:Nat} (ha:a < B) (hb:b < B) (hc:c < B) (hd:d < B) (he:e < B):Bd B [a,b,c,d,e]:=fun x hx=>by
 simp only[AO,B9,or_false] at hx
 rcases hx with rfl|rfl|rfl|rfl|rfl<;>assumption
theorem Ay9 {x:List Nat} (h:x.length=5) (hb:Bd 288230376151711744 x):Can (CAR x)∧vl (CAR x) % PP=vl x % PP∧(crd x).length=5∧Bd 1152921504606846976 (crd x)∧(crd (crd x)).length=5∧Bd 1152921504606846976 (crd (crd x)):=by
 have g:=fun i=>hb.get (by decide) i
 obtain⟨a1,b1,c1,d1,e1,a2,b2,c2,d2,e2,a3,b3,c3,d3,e3,h1,h2,h3,hv,q0,q1,q2,q3,q4,r0,r1,r2,r3,r4,s0,s1,s2,s3,s4⟩:=BS4 (x.getD 0 0) (x.getD 1 0) (x.getD 2 0) (x.getD 3 0) (x.getD 4 0) (g 0) (g 1) (g 2) (g 3) (g 4)
 have e1:crd x=[a1,b1,c1,d1,e1]:=h1
 have e2:crd (crd x)=[a2,b2,c2,d2,e2]:=by rw[e1];exact h2
 have e3:CAR x=[a3,b3,c3,d3,e3]:=by unfold CAR;rw[e2];exact h3
 refine⟨⟨by rw[e3];rfl,by rw[e3];exact bd5 q0 q1 q2 q3 q4⟩,by rw[e3];exact hv,by rw[e1];rfl,?_,by rw[e2];rfl,?_⟩
 ·rw[e1];exact bd5 r0 (by omega) (by omega) (by omega) (by omega)
 ·rw[e2];exact bd5 s0 (by omega) (by omega) (by omega) (by omega)
theorem A9A {x:List Nat} (h:Can x):CAR x=x:=by
 have g:=fun i=>h.b.get (by decide) i
 have e:crd x=x:=by
  have:=BM5 (g 0) (g 1) (g 2) (g 3) (g 4)
  exact this.trans (A3i h.l).symm
 unfold CAR
 rw[e,e,e]
theorem A7f (l:List Nat) (i a:Nat) (z:Int) (h:z=(a:Int)):(cl l).set i z=cl (l.set i a):=by rw[h,uB]
def BR7 (i:Nat) (s:List Nat × Nat):List Nat × Nat:=(s.1.set i ((s.1.getD i 0+s.2) % 67108864),(s.1.getD i 0+s.2) / 67108864)
theorem dL (v2:List Int) (j:Int) (x:List Nat) (hx:x.length=5) (hb:Bd 1152921504606846976 x):
  yY R L (cl x) v2 (0:Int) j (0:Int)=vT R L (cl (crd x)) v2 (Ab .i64 (j+1)):=by
 have:=(yE (fun (s:List Nat × Nat) i=>yY R L (cl s.1) v2 (s.2:Int) j i) BR7
  (fun i s=>s.1.length=5∧Bd 1152921504606846976 s.1∧s.2 < 68719476736) 5
  (fun s=>vT R L (cl (s.1.set 0 (s.1.getD 0 0+5 * s.2))) v2 (Ab .i64 (j+1)))
  (fun s hs=>by
   obtain⟨h1,h2,h3⟩:=hs
   have hq:yY R L (cl s.1) v2 (s.2:Int) j (5:Nat)=_:=round (by kernel_rfl) (gD R L (cl s.1) v2 (s.2:Int) j (5:Nat))
   have hg:=h2.get (by decide) 0
   show yY R L (cl s.1) v2 (s.2:Int) j (5:Nat)=_
   rw[hq,show decide (((5:Nat):Int) < 5)=false from by decide]
   simp only[Aj]
   rw[A7f _ _ (s.1.getD 0 0+5 * s.2)]
   ·rfl
   ·show Ab .u64 ((cl s.1).getD 0 0+Ab .u64 (5 * (s.2:Int)))=_
    rw[zY,An8,An8]
    omega)
  (fun s i hi hs=>by
   obtain⟨h1,h2,h3⟩:=hs
   have hq:yY R L (cl s.1) v2 (s.2:Int) j (i:Nat)=_:=round (by kernel_rfl) (gD R L (cl s.1) v2 (s.2:Int) j (i:Nat))
   have hg:=h2.get (by decide) i
   refine⟨?_,by simp[BR7,h1],h2.set (Av (Ay _ (by decide)) (by decide)),?_⟩
   ·show yY R L (cl s.1) v2 (s.2:Int) j (i:Nat)=_
    have hw:Ab .u64 ((cl s.1).getD i 0+(s.2:Int))=((s.1.getD i 0+s.2:Nat):Int):=by
     rw[zY,An8];omega
    have hgs:((cl s.1).set i ((s.1.getD i 0+s.2:Nat):Int)).getD i 0=((s.1.getD i 0+s.2:Nat):Int):=by
     rw[uB,zY,Ag,AG]
     simp[h1,hi]
    rw[hq,show decide ((i:Int) < 5)=true from Ai (by omega),nn,tn,zT (n:=5) hi]
    simp only[Ah]
    rw[hw,hgs,zB (by omega),List.set_set,show yU .and .u64 ((s.1.getD i 0+s.2:Nat):Int) 67108863=(((s.1.getD i 0+s.2) % 67108864:Nat):Int) from by
     rw[show (67108863:Int)=((67108863:Nat):Int) from rfl,AG5 (by simp only[uV];omega) (by decide),A6g],uB]
    rw[show AX ((s.1.getD i 0+s.2:Nat):Int) (2 ^ A0 (Aq 26) (Am .u64))=(((s.1.getD i 0+s.2) / 67108864:Nat):Int) from mE _ 26]
    rfl
   ·show (s.1.getD i 0+s.2) / 67108864 < 68719476736
    omega)
  (x,0) ⟨hx,hb,(by decide:(0:Nat) < 68719476736)⟩).1
 refine this.trans ?_
 obtain⟨a,b,c,d,e,rfl⟩:∃ a b c d e,x=[a,b,c,d,e]:=⟨_,_,_,_,_,A3i hx⟩
 rfl
theorem AH8 (x:List Nat) (hx:x.length=5) (hb:Bd 288230376151711744 x):xM R (cl x)=some (cl (CAR x),()):=by
 have hq:xM R (cl x)=_:=call (AP8 R L (cl x))
 obtain⟨_,_,l1,b1,l2,b2⟩:=Ay9 hx hb
 have b0:Bd 1152921504606846976 x:=fun y hy=>Av (hb y hy) (by decide)
 have q0:∀ (y:List Int) (v2:List Int) (j:Int),vT R L y v2 j=_:=fun y v2 j=>round (by kernel_rfl) (AG6 R L y v2 j)
 rw[hq,q0,show decide ((0:Int) < 3)=true from rfl]
 simp only[Ah]
 rw[dL _ _ x hx b0,q0,show decide (Ab .i64 ((0:Int)+1) < 3)=true from by decide]
 simp only[Ah]
 rw[dL _ _ _ l1 b1,q0,show decide (Ab .i64 (Ab .i64 ((0:Int)+1)+1) < 3)=true from by decide]
 simp only[Ah]
 rw[dL _ _ _ l2 b2,q0,show decide (Ab .i64 (Ab .i64 (Ab .i64 ((0:Int)+1)+1)+1) < 3)=false from by decide]
 rfl
end Go.Rf.S

end
section
namespace Go.Rf.S
set_option maxRecDepth 100000
theorem pK {l:List Nat} {i j a:Nat} (h:i≠j):(l.set i a).getD j 0=l.getD j 0:=by
 rw[Ag,Ag,AG,A4 h]
theorem wT {k:IntKind} {a b:Nat} (h:a+b < uV k):Ab k ((a:Int)+(b:Int))=((a+b:Nat):Int):=by
 rw[show (a:Int)+(b:Int)=((a+b:Nat):Int) from by omega,AL0 h]
theorem lY {k:IntKind} {a b:Nat} (h:a * b < uV k):Ab k ((a:Int) * (b:Int))=((a * b:Nat):Int):=by
 rw[show (a:Int) * (b:Int)=((a * b:Nat):Int) from by simp,AL0 h]
theorem m26 {k:IntKind} {a:Nat} (h:a < uV k) (hk:67108863 < uV k):yU .and k (a:Int) 67108863=((a % 67108864:Nat):Int):=by
 rw[show (67108863:Int)=((67108863:Nat):Int) from rfl,AG5 h hk,A6g]
def BK1 (i:Nat) (x:List Nat):List Nat:=(x.set (i+1) (x.getD (i+1) 0+x.getD i 0 / 67108864)).set i (x.getD i 0 % 67108864)
theorem dV (v2:List Int) (j:Int) (x:List Nat) (hx:x.length=5) (hb:Bd 1152921504606846976 x):
  vS R L (cl x) v2 j (0:Int)=rK R L (cl (crd x)) v2 (Ab .i64 (j+1)):=by
 have:=(yE (fun (x:List Nat) i=>vS R L (cl x) v2 j i) BK1
  (fun i x=>x.length=5∧Bd (1152921504606846976+i * 1099511627776) x) 4
  (fun x=>rK R L (cl ((x.set 0 (x.getD 0 0+5 * (x.getD 4 0 / 67108864))).set 4 (x.getD 4 0 % 67108864))) v2 (Ab .i64 (j+1)))
  (fun x hs=>by
   obtain⟨h1,h2⟩:=hs
   have hq:vS R L (cl x) v2 j (4:Nat)=_:=round (by kernel_rfl) (AE2 R L (cl x) v2 j (4:Nat))
   have hg:=h2.get (by decide) 0
   have hg4:=h2.get (by decide) 4
   show vS R L (cl x) v2 j (4:Nat)=_
   rw[hq,show decide (((4:Nat):Int) < 4)=false from by decide]
   simp only[Aj]
   have e0:Aq 0=0:=rfl
   have e4:Aq 4=4:=rfl
   have ed:AX ((cl x).getD 4 0) (2 ^ A0 (Aq 26) (Am .i64))=((x.getD 4 0 / 67108864:Nat):Int):=by rw[zY];exact mE _ 26
   have ew:Ab .i64 ((cl x).getD 0 0+Ab .i64 (5 * ((x.getD 4 0 / 67108864:Nat):Int)))=((x.getD 0 0+5 * (x.getD 4 0 / 67108864):Nat):Int):=by
    rw[show (5:Int)=((5:Nat):Int) from rfl,lY (by simp only[uV];omega),zY,wT (by simp only[uV];omega)]
   rw[e0,e4,ed,ew,uB,zY,pK (by decide),m26 (by simp only[uV];omega) (by decide),uB])
  (fun x i hi hs=>by
   obtain⟨h1,h2⟩:=hs
   have hq:vS R L (cl x) v2 j (i:Nat)=_:=round (by kernel_rfl) (AE2 R L (cl x) v2 j (i:Nat))
   have hpos:0 < 1152921504606846976+i * 1099511627776:=by omega
   have hg:=h2.get hpos i
   have hg1:=h2.get hpos (i+1)
   have hmono:Bd (1152921504606846976+(i+1) * 1099511627776) x:=fun y hy=>Av (h2 y hy) (by omega)
   refine⟨?_,by simp[BK1,h1],(hmono.set (by omega)).set (Av (Ay _ (by decide)) (by omega))⟩
   show vS R L (cl x) v2 j (i:Nat)=_
   have ed:AX ((cl x).getD i 0) (2 ^ A0 (Aq 26) (Am .i64))=((x.getD i 0 / 67108864:Nat):Int):=by rw[zY];exact mE _ 26
   rw[hq,show decide ((i:Int) < 4)=true from Ai (by omega),zB (by omega),nn,tn,nn,tn,zT (n:=5) (show i+1 < 5 by omega),zT (n:=5) (show i < 5 by omega)]
   simp only[Ah]
   rw[ed,zY,wT (by simp only[uV];omega),uB,zY,pK (by omega),m26 (by simp only[uV];omega) (by decide),uB]
   rfl)
  x ⟨hx,by simpa using hb⟩).1
 refine this.trans ?_
 obtain⟨a,b,c,d,e,rfl⟩:∃ a b c d e,x=[a,b,c,d,e]:=⟨_,_,_,_,_,A3i hx⟩
 rfl
theorem Ax8 (x:List Nat) (hx:x.length=5) (hb:Bd 288230376151711744 x):pH R (cl x)=some (cl (CAR x),()):=by
 have hq:pH R (cl x)=_:=call (Az0 R L (cl x))
 obtain⟨_,_,l1,b1,l2,b2⟩:=Ay9 hx hb
 have b0:Bd 1152921504606846976 x:=fun y hy=>Av (hb y hy) (by decide)
 have q0:∀ (y:List Int) (v2:List Int) (j:Int),rK R L y v2 j=_:=fun y v2 j=>round (by kernel_rfl) (Ad9 R L y v2 j)
 rw[hq,q0,show decide ((0:Int) < 3)=true from rfl]
 simp only[Ah]
 rw[dV _ _ x hx b0,q0,show decide (Ab .i64 ((0:Int)+1) < 3)=true from by decide]
 simp only[Ah]
 rw[dV _ _ _ l1 b1,q0,show decide (Ab .i64 (Ab .i64 ((0:Int)+1)+1) < 3)=true from by decide]
 simp only[Ah]
 rw[dV _ _ _ l2 b2,q0,show decide (Ab .i64 (Ab .i64 (Ab .i64 ((0:Int)+1)+1)+1) < 3)=false from by decide]
 rfl
def TIM (x y : List Nat) : List Nat :=
  [x.getD 0 0 * y.getD 0 0 + 5 * (x.getD 1 0 * y.getD 4 0) + 5 * (x.getD 2 0 * y.getD 3 0) + 5 * (x.getD 3 0 * y.getD 2 0) + 5 * (x.getD 4 0 * y.getD 1 0),
   x.getD 0 0 * y.getD 1 0 + x.getD 1 0 * y.getD 0 0 + 5 * (x.getD 2 0 * y.getD 4 0) + 5 * (x.getD 3 0 * y.getD 3 0) + 5 * (x.getD 4 0 * y.getD 2 0),
   x.getD 0 0 * y.getD 2 0 + x.getD 1 0 * y.getD 1 0 + x.getD 2 0 * y.getD 0 0 + 5 * (x.getD 3 0 * y.getD 4 0) + 5 * (x.getD 4 0 * y.getD 3 0),
   x.getD 0 0 * y.getD 3 0 + x.getD 1 0 * y.getD 2 0 + x.getD 2 0 * y.getD 1 0 + x.getD 3 0 * y.getD 0 0 + 5 * (x.getD 4 0 * y.getD 4 0),
   x.getD 0 0 * y.getD 4 0 + x.getD 1 0 * y.getD 3 0 + x.getD 2 0 * y.getD 2 0 + x.getD 3 0 * y.getD 1 0 + x.getD 4 0 * y.getD 0 0]
theorem A5q (x y:List Nat):(TIM x y).length=5:=rfl
theorem A9K (x y:List Nat):vl (TIM x y) % PP=(vl x * vl y) % PP:=by
 obtain⟨q,h⟩:=BD4 (x.getD 0 0) (x.getD 1 0) (x.getD 2 0) (x.getD 3 0) (x.getD 4 0) (y.getD 0 0) (y.getD 1 0) (y.getD 2 0) (y.getD 3 0) (y.getD 4 0)
 show val _ _ _ _ _ % PP=(val _ _ _ _ _ * val _ _ _ _ _) % PP
 rw[h,Nat.add_mul_mod_self_right]
 rfl
theorem A8K {a b:Nat} (ha:a < 134217728) (hb:b < 67108864):a * b < 9007199254740992:=by
 have:a * b≤a * 67108864:=Bw _ (by omega)
 omega
theorem A2b {x y:List Nat} (hx:Bd 134217728 x) (hy:Bd 67108864 y):Bd 288230376151711744 (TIM x y):=by
 have p:=fun i j=>A8K (hx.get (by decide) i) (hy.get (by decide) j)
 have p00:=p 0 0;have p01:=p 0 1;have p02:=p 0 2;have p03:=p 0 3;have p04:=p 0 4
 have p10:=p 1 0;have p11:=p 1 1;have p12:=p 1 2;have p13:=p 1 3;have p14:=p 1 4
 have p20:=p 2 0;have p21:=p 2 1;have p22:=p 2 2;have p23:=p 2 3;have p24:=p 2 4
 have p30:=p 3 0;have p31:=p 3 1;have p32:=p 3 2;have p33:=p 3 3;have p34:=p 3 4
 have p40:=p 4 0;have p41:=p 4 1;have p42:=p 4 2;have p43:=p 4 3;have p44:=p 4 4
 exact bd5 (by omega) (by omega) (by omega) (by omega) (by omega)
def stT (x y:List Nat) (i k:Nat) (o:List Nat):List Nat:=
 if i+k < 5 then o.set (i+k) (o.getD (i+k) 0+x.getD i 0 * y.getD k 0) else o.set (i+k - 5) (o.getD (i+k - 5) 0+5 * (x.getD i 0 * y.getD k 0))
def A7c (i k:Nat) (o:List Nat):Prop:=o.length=5∧Bd (1+(5 * i+k) * 45035996273704960) o
theorem A6u {x y o:List Nat} {i k:Nat} (hx:Bd 134217728 x) (hy:Bd 67108864 y) (h:A7c i k o):A7c i (k+1) (stT x y i k o):=by
 obtain⟨h1,h2⟩:=h
 have hp:=A8K (hx.get (by decide) i) (hy.get (by decide) k)
 have hpos:0 < 1+(5 * i+k) * 45035996273704960:=by omega
 have hmono:Bd (1+(5 * i+(k+1)) * 45035996273704960) o:=fun z hz=>Av (h2 z hz) (by omega)
 unfold stT
 split
 ·have:=h2.get hpos (i+k)
  exact⟨by simp[h1],hmono.set (by omega)⟩
 ·have:=h2.get hpos (i+k - 5)
  exact⟨by simp[h1],hmono.set (by omega)⟩
theorem A9O (x y : List Nat) : xO (fun i o => xO (stT x y i) 5 0 o) 5 0 (Aa 5 0) = TIM x y := by
  have e : xO (fun i o => xO (stT x y i) 5 0 o) 5 0 (Aa 5 0) =
    [0 + x.getD 0 0 * y.getD 0 0 + 5 * (x.getD 1 0 * y.getD 4 0) + 5 * (x.getD 2 0 * y.getD 3 0) + 5 * (x.getD 3 0 * y.getD 2 0) + 5 * (x.getD 4 0 * y.getD 1 0),
     0 + x.getD 0 0 * y.getD 1 0 + x.getD 1 0 * y.getD 0 0 + 5 * (x.getD 2 0 * y.getD 4 0) + 5 * (x.getD 3 0 * y.getD 3 0) + 5 * (x.getD 4 0 * y.getD 2 0),
     0 + x.getD 0 0 * y.getD 2 0 + x.getD 1 0 * y.getD 1 0 + x.getD 2 0 * y.getD 0 0 + 5 * (x.getD 3 0 * y.getD 4 0) + 5 * (x.getD 4 0 * y.getD 3 0),
     0 + x.getD 0 0 * y.getD 3 0 + x.getD 1 0 * y.getD 2 0 + x.getD 2 0 * y.getD 1 0 + x.getD 3 0 * y.getD 0 0 + 5 * (x.getD 4 0 * y.getD 4 0),
     0 + x.getD 0 0 * y.getD 4 0 + x.getD 1 0 * y.getD 3 0 + x.getD 2 0 * y.getD 2 0 + x.getD 3 0 * y.getD 1 0 + x.getD 4 0 * y.getD 0 0] := by kernel_rfl
  rw [e]
  simp only [Bj]
  rfl
end Go.Rf.S

end
section
namespace Go.Rf.S
set_option maxRecDepth 100000
theorem Ar5 (x y:List Nat) (v3:List Int) (v4:List Int) (i:Nat) (hi:i < 5) (hx:Bd 134217728 x) (hy:Bd 67108864 y) (o:List Nat) (ho:A7c i 0 o):
  xG R L v3 v4 (cl o) (i:Int) ((x.getD i 0:Nat):Int) (cl x) (i:Int) (cl y) (0:Int)=xE R L v3 v4 (cl (xO (stT x y i) 5 0 o)) (cl x) ((i+1:Nat):Int)∧A7c (i+1) 0 (xO (stT x y i) 5 0 o):=by
 have:=yE (fun (o:List Nat) k=>xG R L v3 v4 (cl o) (i:Int) ((x.getD i 0:Nat):Int) (cl x) (i:Int) (cl y) k) (stT x y i) (A7c i) 5
  (fun o=>xE R L v3 v4 (cl o) (cl x) ((i+1:Nat):Int))
  (fun o hs=>by
   have hq:xG R L v3 v4 (cl o) (i:Int) ((x.getD i 0:Nat):Int) (cl x) (i:Int) (cl y) (5:Nat)=_:=round (by kernel_rfl) (fX R L v3 v4 (cl o) (i:Int) _ (cl x) (i:Int) (cl y) (5:Nat))
   show xG R L v3 v4 (cl o) (i:Int) ((x.getD i 0:Nat):Int) (cl x) (i:Int) (cl y) (5:Nat)=_
   rw[hq,show decide (((5:Nat):Int) < 5)=false from by decide,zB (i:=i) (by omega)]
   rfl)
  (fun o k hk hs=>by
   refine⟨?_,A6u hx hy hs⟩
   have hq:xG R L v3 v4 (cl o) (i:Int) ((x.getD i 0:Nat):Int) (cl x) (i:Int) (cl y) (k:Nat)=_:=round (by kernel_rfl) (fX R L v3 v4 (cl o) (i:Int) _ (cl x) (i:Int) (cl y) (k:Nat))
   show xG R L v3 v4 (cl o) (i:Int) ((x.getD i 0:Nat):Int) (cl x) (i:Int) (cl y) (k:Nat)=_
   have hp:=A8K (hx.get (by decide) i) (hy.get (by decide) k)
   have hxi:=hx.get (by decide) i
   have hpos:0 < 1+(5 * i+k) * 45035996273704960:=by omega
   have hik:Ab .i64 ((i:Int)+(k:Int))=((i+k:Nat):Int):=wT (by simp only[uV];omega)
   rw[hq,show decide ((k:Int) < 5)=true from Ai (by omega),nn,tn,zT (n:=5) hk,hik]
   simp only[Ah]
   unfold stT
   by_cases h:i+k < 5
   ·have hg:=hs.2.get hpos (i+k)
    rw[A7 h,show decide (((i+k:Nat):Int) < 5)=true from Ai (by omega)]
    simp only[Ah]
    rw[nn,tn,zT (n:=5) h,zB (by omega)]
    simp only[Ah]
    rw[zY,zY,lY (by simp only[uV];omega),wT (by simp only[uV];omega),uB]
   ·have hg:=hs.2.get hpos (i+k - 5)
    have h5:Ab .i64 (((i+k:Nat):Int) - 5)=((i+k - 5:Nat):Int):=by
     rw[yI (by omega) (by omega)];omega
    rw[A4 h,show decide (((i+k:Nat):Int) < 5)=false from Ak (by omega)]
    simp only[Aj]
    rw[h5,nn,tn,zT (n:=5) (show i+k - 5 < 5 by omega),zB (by omega)]
    simp only[Ah]
    have hm:5 * x.getD i 0 * y.getD k 0=5 * (x.getD i 0 * y.getD k 0):=Nat.mul_assoc _ _ _
    rw[zY,zY,show (5:Int)=((5:Nat):Int) from rfl,lY (by simp only[uV];omega),lY (by simp only[uV];omega),hm,wT (by simp only[uV];omega),uB])
  o ho
 refine⟨this.1,this.2.1,?_⟩
 have h2:=this.2.2
 rw[show 5 * i+5=5 * (i+1)+0 by omega] at h2
 exact h2
theorem A7W (x y:List Nat) (hlx:x.length=5) (hx:Bd 134217728 x) (hy:Bd 67108864 y):mG R (cl x) (cl y)=some (cl (CAR (TIM x y)),()):=by
 have hq:mG R (cl x) (cl y)=_:=call (Aa8 R L (cl x) (cl y))
 have:=(yE (fun (o:List Nat) i=>xE R L (cl y) (Aa 5 0) (cl o) (cl x) i) (fun i o=>xO (stT x y i) 5 0 o) (fun i o=>A7c i 0 o) 5
  (fun o=>(xM R (cl o)).bind fun r0=>some (r0.1,()))
  (fun o hs=>by
   have hq:xE R L (cl y) (Aa 5 0) (cl o) (cl x) (5:Nat)=_:=round (by kernel_rfl) (eK R L (cl y) (Aa 5 0) (cl o) (cl x) (5:Nat))
   show xE R L (cl y) (Aa 5 0) (cl o) (cl x) (5:Nat)=_
   rw[hq,show decide (((5:Nat):Int) < 5)=false from by decide]
   rfl)
  (fun o i hi hs=>by
   have hq:xE R L (cl y) (Aa 5 0) (cl o) (cl x) (i:Nat)=_:=round (by kernel_rfl) (eK R L (cl y) (Aa 5 0) (cl o) (cl x) (i:Nat))
   obtain⟨h1,h2⟩:=Ar5 x y (cl y) (Aa 5 0) i hi hx hy o hs
   refine⟨?_,h2⟩
   show xE R L (cl y) (Aa 5 0) (cl o) (cl x) (i:Nat)=_
   rw[hq,show decide ((i:Int) < 5)=true from Ai (by omega),nn,tn,zT (n:=5) hi,zY]
   simp only[Ah]
   exact h1)
  (Aa 5 0) ⟨rfl,Bd.rep (by omega)⟩).1
 rw[hq]
 refine this.trans ?_
 rw[A9O]
 show (xM R (cl (TIM x y))).bind _=_
 rw[AH8 _ (A5q x y) (A2b hx hy)]
 rfl
theorem Aq1 (x y:List Nat) (v4:List Int) (i:Nat) (hi:i < 5) (hx:Bd 134217728 x) (hy:Bd 67108864 y) (o:List Nat) (ho:A7c i 0 o):
  wN R L (cl x) (cl y) v4 (cl o) (i:Int) (0:Int)=wP R L (cl x) (cl y) v4 (cl (xO (stT x y i) 5 0 o)) ((i+1:Nat):Int)∧A7c (i+1) 0 (xO (stT x y i) 5 0 o):=by
 have:=yE (fun (o:List Nat) k=>wN R L (cl x) (cl y) v4 (cl o) (i:Int) k) (stT x y i) (A7c i) 5
  (fun o=>wP R L (cl x) (cl y) v4 (cl o) ((i+1:Nat):Int))
  (fun o hs=>by
   have hq:wN R L (cl x) (cl y) v4 (cl o) (i:Int) (5:Nat)=_:=round (by kernel_rfl) (AE7 R L (cl x) (cl y) v4 (cl o) (i:Int) (5:Nat))
   show wN R L (cl x) (cl y) v4 (cl o) (i:Int) (5:Nat)=_
   rw[hq,show decide (((5:Nat):Int) < 5)=false from by decide,zB (i:=i) (by omega)]
   rfl)
  (fun o k hk hs=>by
   refine⟨?_,A6u hx hy hs⟩
   have hq:wN R L (cl x) (cl y) v4 (cl o) (i:Int) (k:Nat)=_:=round (by kernel_rfl) (AE7 R L (cl x) (cl y) v4 (cl o) (i:Int) (k:Nat))
   show wN R L (cl x) (cl y) v4 (cl o) (i:Int) (k:Nat)=_
   have hp:=A8K (hx.get (by decide) i) (hy.get (by decide) k)
   have hpos:0 < 1+(5 * i+k) * 45035996273704960:=by omega
   have hik:Ab .i64 ((i:Int)+(k:Int))=((i+k:Nat):Int):=wT (by simp only[uV];omega)
   have hmod:AA ((i+k:Nat):Int) 5=(((i+k) % 5:Nat):Int):=rfl
   rw[hq,show decide ((k:Int) < 5)=true from Ai (by omega),nn,tn,zT (n:=5) hi,nn,tn,zT (n:=5) hk,hik,hmod,nn,tn,zT (n:=5) (Ay _ (by decide)),zB (by omega),zY,zY,zY,lY (by simp only[uV];omega)]
   simp only[Ah]
   unfold stT
   by_cases h:i+k < 5
   ·have hg:=hs.2.get hpos (i+k)
    rw[A7 h,show decide ((4:Int) < ((i+k:Nat):Int))=false from Ak (by omega),Aw h]
    simp only[Aj]
    rw[wT (by simp only[uV];omega),uB]
   ·have hg:=hs.2.get hpos (i+k - 5)
    have e5:(i+k) % 5=i+k - 5:=by omega
    rw[A4 h,show decide ((4:Int) < ((i+k:Nat):Int))=true from Ai (by omega),e5]
    simp only[Ah]
    have hm:x.getD i 0 * y.getD k 0 * 5=5 * (x.getD i 0 * y.getD k 0):=Bk _ _
    rw[show (5:Int)=((5:Nat):Int) from rfl,lY (by simp only[uV];omega),hm,wT (by simp only[uV];omega),uB])
  o ho
 refine⟨this.1,this.2.1,?_⟩
 have h2:=this.2.2
 rw[show 5 * i+5=5 * (i+1)+0 by omega] at h2
 exact h2
theorem A66 (x y:List Nat) (hlx:x.length=5) (hx:Bd 134217728 x) (hy:Bd 67108864 y):nL R (cl x) (cl y)=some (cl (CAR (TIM x y)),()):=by
 have hq:nL R (cl x) (cl y)=_:=call (Az7 R L (cl x) (cl y))
 have:=(yE (fun (o:List Nat) i=>wP R L (cl x) (cl y) (Aa 5 0) (cl o) i) (fun i o=>xO (stT x y i) 5 0 o) (fun i o=>A7c i 0 o) 5
  (fun o=>(pH R (cl o)).bind fun r0=>some (r0.1,()))
  (fun o hs=>by
   have hq:wP R L (cl x) (cl y) (Aa 5 0) (cl o) (5:Nat)=_:=round (by kernel_rfl) (AC4 R L (cl x) (cl y) (Aa 5 0) (cl o) (5:Nat))
   show wP R L (cl x) (cl y) (Aa 5 0) (cl o) (5:Nat)=_
   rw[hq,show decide (((5:Nat):Int) < 5)=false from by decide]
   rfl)
  (fun o i hi hs=>by
   have hq:wP R L (cl x) (cl y) (Aa 5 0) (cl o) (i:Nat)=_:=round (by kernel_rfl) (AC4 R L (cl x) (cl y) (Aa 5 0) (cl o) (i:Nat))
   obtain⟨h1,h2⟩:=Aq1 x y (Aa 5 0) i hi hx hy o hs
   refine⟨?_,h2⟩
   show wP R L (cl x) (cl y) (Aa 5 0) (cl o) (i:Nat)=_
   rw[hq,show decide ((i:Int) < 5)=true from Ai (by omega)]
   simp only[Ah]
   exact h1)
  (Aa 5 0) ⟨rfl,Bd.rep (by omega)⟩).1
 rw[hq]
 refine this.trans ?_
 rw[A9O]
 show (pH R (cl (TIM x y))).bind _=_
 rw[Ax8 _ (A5q x y) (A2b hx hy)]
 rfl
end Go.Rf.S

end
section
namespace Go.Rf.S
set_option maxRecDepth 100000
def bI (t:List UInt8):List Int:=t.map fun b=>(b.toNat:Int)
theorem A9b (t:List UInt8):(bI t).length=t.length:=At _
theorem A93 (t:List UInt8) (i:Nat):(bI t).getD i (0:Int)=((bt t i:Nat):Int):=by
 unfold bI bt
 rw[Ag,Ag,Bc]
 cases t[i]?<;>rfl
theorem Am5:∀ (t:List UInt8) (i:Nat),leV t / 256 ^ i % 256=bt t i
 | [],i=>by simp[leV,bt]
 | c :: cs,0=>by
  have:=c.toNat_lt
  simp only[leV,AJ,AP]
  show _=c.toNat
  omega
 | c :: cs,i+1=>by
  have:=c.toNat_lt
  have ih:=Am5 cs i
  have e:leV (c :: cs) / 256 ^ (i+1)=leV cs / 256 ^ i:=by
   rw[Nat.pow_succ,Bk,← AD]
   congr 1
   simp only[leV]
   omega
  rw[e,ih]
  rfl
theorem A6Y {m s:Nat} (h:m < 2 ^ s):m ||| 2 ^ s=m+2 ^ s:=by
 have:=AW h 1
 rw[Nat.mul_one] at this
 rw[Nat.or_comm,← this,Nat.add_comm]
theorem BP0 {s:Nat} (h:s < 26):1≤2 ^ s∧2 ^ s≤33554432:=⟨B3,A3 (AB (by decide) (show s≤25 by omega)) (by decide)⟩
theorem BP9 {N q s:Nat} (hq:q < 5) (hs:s < 26) (hN:N < 2 ^ (26 * q+s)):(L5 N).set q ((L5 N).getD q 0 ||| 2 ^ s)=L5 (N+2 ^ (26 * q+s)):=by
 have hp:=BP0 hs
 rw[AR] at hN ⊢
 have e:∀ m,m < 2 ^ s→m ||| 2 ^ s=m+2 ^ s:=fun m hm=>A6Y hm
 generalize 2 ^ s=P at hp hN e ⊢
 match q,hq with
 | 0,_=>
  rw[show 2 ^ (26 * 0) * P=P by simp] at hN ⊢
  show [(N % 67108864 ||| P),_,_,_,_]=L5 (N+P)
  rw[e _ (by omega)]
  unfold L5
  congr 1
  ·omega
  ·congr 1
   ·omega
   ·congr 1
    ·omega
    ·congr 1
     ·omega
     ·congr 1;omega
 | 1,_=>
  rw[show 2 ^ (26 * 1) * P=67108864 * P from rfl] at hN ⊢
  show [_,(N / 67108864 % 67108864 ||| P),_,_,_]=L5 (N+67108864 * P)
  rw[e _ (by omega)]
  unfold L5
  congr 1
  ·omega
  ·congr 1
   ·omega
   ·congr 1
    ·omega
    ·congr 1
     ·omega
     ·congr 1;omega
 | 2,_=>
  rw[show 2 ^ (26 * 2) * P=4503599627370496 * P from rfl] at hN ⊢
  show [_,_,(N / 4503599627370496 % 67108864 ||| P),_,_]=L5 (N+4503599627370496 * P)
  rw[e _ (by omega)]
  unfold L5
  congr 1
  ·omega
  ·congr 1
   ·omega
   ·congr 1
    ·omega
    ·congr 1
     ·omega
     ·congr 1;omega
 | 3,_=>
  rw[show 2 ^ (26 * 3) * P=302231454903657293676544 * P from rfl] at hN ⊢
  show [_,_,_,(N / 302231454903657293676544 % 67108864 ||| P),_]=L5 (N+302231454903657293676544 * P)
  rw[e _ (by omega)]
  unfold L5
  congr 1
  ·omega
  ·congr 1
   ·omega
   ·congr 1
    ·omega
    ·congr 1
     ·omega
     ·congr 1;omega
 | 4,_=>
  rw[show 2 ^ (26 * 4) * P=20282409603651670423947251286016 * P from rfl] at hN ⊢
  show [_,_,_,_,(N / 20282409603651670423947251286016 % 67108864 ||| P)]=L5 (N+20282409603651670423947251286016 * P)
  rw[e _ (by omega)]
  unfold L5
  congr 1
  ·omega
  ·congr 1
   ·omega
   ·congr 1
    ·omega
    ·congr 1
     ·omega
     ·congr 1;omega
theorem AV0 (n:Nat):Bd 67108864 (L5 n):=bd5 (Ay _ (by decide)) (Ay _ (by decide)) (Ay _ (by decide)) (Ay _ (by decide)) (Ay _ (by decide))
theorem A8U {t:List UInt8} {i b:Nat} (hb:b < 8):bt t i / 2 ^ b % 2=leV t / 2 ^ (8 * i+b) % 2:=by
 rw[← Am5,show (256:Nat)=2 ^ 8 from rfl,← Nat.pow_mul]
 rw[AR,← AD]
 generalize leV t / 2 ^ (8 * i)=m
 rw[show (2:Nat) ^ 8=2 ^ b * (2 * 2 ^ (7 - b)) by rw[← Nat.pow_succ',← AR];congr 1;omega,AY,Bp]
theorem A2S (n k:Nat):n % 2 ^ (k+1)=n % 2 ^ k+(n / 2 ^ k % 2) * 2 ^ k:=by
 rw[Nat.mod_pow_succ,Bk (2 ^ k)]
theorem BM2 {t:List UInt8} (hl:t.length≤17) (hn:leV t < 1361129467683753853853498429727072845824) (i:Nat) (hi:i < t.length) (v2:List Int) (v9:List Int) (v10:Int):
  wL R L v2 (cl (L5 (leV t % 2 ^ (8 * i)))) (i:Int) ((bt t i:Nat):Int) v9 v10 (i:Int) (0:Int)=xV R L v2 (cl (L5 (leV t % 2 ^ (8 * (i+1))))) v9 v10 ((i+1:Nat):Int):=by
 have:=(yE (fun (k:Nat) b=>wL R L v2 (cl (L5 (leV t % 2 ^ k))) (i:Int) ((bt t i:Nat):Int) v9 v10 (i:Int) b) (fun _ k=>k+1) (fun b k=>k=8 * i+b) 8
  (fun k=>xV R L v2 (cl (L5 (leV t % 2 ^ k))) v9 v10 ((i+1:Nat):Int))
  (fun k hk=>by
   have hq:wL R L v2 (cl (L5 (leV t % 2 ^ k))) (i:Int) ((bt t i:Nat):Int) v9 v10 (i:Int) (8:Nat)=_:=round (by kernel_rfl) (AI6 R L v2 _ (i:Int) _ v9 v10 (i:Int) (8:Nat))
   show wL R L v2 (cl (L5 (leV t % 2 ^ k))) (i:Int) ((bt t i:Nat):Int) v9 v10 (i:Int) (8:Nat)=_
   rw[hq,show decide (((8:Nat):Int) < 8)=false from by decide]
   simp only[Aj]
   rw[zB (i:=i) (by omega)])
  (fun k b hb hk=>by
   subst hk
   refine⟨?_,rfl⟩
   have hq:wL R L v2 (cl (L5 (leV t % 2 ^ (8 * i+b)))) (i:Int) ((bt t i:Nat):Int) v9 v10 (i:Int) (b:Nat)=_:=round (by kernel_rfl) (AI6 R L v2 _ (i:Int) _ v9 v10 (i:Int) (b:Nat))
   show wL R L v2 (cl (L5 (leV t % 2 ^ (8 * i+b)))) (i:Int) ((bt t i:Nat):Int) v9 v10 (i:Int) (b:Nat)=wL R L v2 (cl (L5 (leV t % 2 ^ (8 * i+b+1)))) (i:Int) ((bt t i:Nat):Int) v9 v10 (i:Int) ((b+1:Nat):Int)
   have hbt:=sI t i
   have hdiv:bt t i / 2 ^ b < 256:=AZ (AT _ _) hbt
   have hand:yU .and .u8 (((bt t i / 2 ^ b:Nat)):Int) 1=((bt t i / 2 ^ b % 2:Nat):Int):=by
    rw[show (1:Int)=((1:Nat):Int) from rfl,AG5 (by simp only[uV];omega) (by decide),B4]
   have hmin:A0 (Aq (b:Int)) (Am .u8)=b:=by rw[tn];show Nat.min b 8=b;exact Au (by omega)
   rw[hq,show decide ((b:Int) < 8)=true from Ai (by omega),show decide ((b:Int) < 0)=false from Ak (by omega),hmin,mE,hand,A8U hb,zB (i:=b) (by omega)]
   simp only[Ah,Aj]
   rcases Nat.mod_two_eq_zero_or_one (leV t / 2 ^ (8 * i+b)) with h0|h1
   ·rw[h0,A2S,h0,Nat.zero_mul,Nat.add_zero]
    rfl
   ·rw[h1,A2S,h1,Nat.one_mul]
    have hk:8 * i+b < 130:=by
     rcases Nat.lt_or_ge (8 * i+b) 130 with h|h
     ·exact h
     ·have:leV t / 2 ^ (8 * i+b)=0:=Nat.div_eq_of_lt (Av hn (A3 (by decide) (AB (by decide) h)))
      rw[this] at h1;simp at h1
    have e8:Ab .i64 (Ab .i64 (8 * (i:Int))+(b:Int))=((8 * i+b:Nat):Int):=by
     rw[show (8:Int)=((8:Nat):Int) from rfl,lY (by simp only[uV];omega),wT (by simp only[uV];omega)]
    have et:Bg ((8 * i+b:Nat):Int) 26=(((8 * i+b) / 26:Nat):Int):=rfl
    have em:AA ((8 * i+b:Nat):Int) 26=(((8 * i+b) % 26:Nat):Int):=rfl
    rw[e8,et,em,tV (by omega),nn,tn,zT (n:=5) (by omega),show decide ((((8 * i+b) % 26:Nat):Int) < 0)=false from Ak (by omega),tn]
    rw[show eqI ((1:Nat):Int) 1=true from rfl]
    simp only[Ah,Aj]
    have hs:(8 * i+b) % 26 < 26:=Ay _ (by decide)
    have hp:=BP0 hs
    have hm2:A0 ((8 * i+b) % 26) (Am .u64)=(8 * i+b) % 26:=Au (by show _≤64;omega)
    have hw:Ab .u64 (1 * 2 ^ ((8 * i+b) % 26))=((2 ^ ((8 * i+b) % 26):Nat):Int):=by
     rw[Int.one_mul,show (2 ^ ((8 * i+b) % 26):Int)=((2 ^ ((8 * i+b) % 26):Nat):Int) from by simp,AL0 (by simp only[uV];omega)]
    have hg:=(AV0 (leV t % 2 ^ (8 * i+b))).get (by decide) ((8 * i+b) / 26)
    rw[hm2,hw,zY,Aa9 (by simp only[uV];omega) (by simp only[uV];omega),uB,BP9 (by omega) hs (by
     rw[Bm];exact Ay _ (BC _)),Bm])
  (8 * i) (by omega)).1
 exact this
theorem Aa1 (t:List UInt8) (hl:t.length≤17) (hn:leV t < 1361129467683753853853498429727072845824):lD R t=some (cl (L5 (leV t)),()):=by
 have hq:lD R t=_:=call (A1u R L t)
 have:=(yE (fun (k:Nat) i=>xV R L (Aa 5 0) (cl (L5 (leV t % 2 ^ k))) (bI t) (t.length:Nat) i) (fun _ k=>k+8) (fun i k=>k=8 * i) t.length
  (fun k=>some (cl (L5 (leV t)),()))
  (fun k hk=>by
   subst hk
   have hq:xV R L (Aa 5 0) (cl (L5 (leV t % 2 ^ (8 * t.length)))) (bI t) (t.length:Nat) (t.length:Nat)=_:=round (by kernel_rfl) (AK4 R L (Aa 5 0) _ (bI t) (t.length:Nat) (t.length:Nat))
   show xV R L (Aa 5 0) (cl (L5 (leV t % 2 ^ (8 * t.length)))) (bI t) (t.length:Nat) (t.length:Nat)=_
   rw[hq,AN4 (Ao _)]
   have:=A2l t
   rw[show (256:Nat)=2 ^ 8 from rfl,← Nat.pow_mul] at this
   rw[Aw this]
   rfl)
  (fun k i hi hk=>by
   subst hk
   refine⟨?_,by omega⟩
   have hq:xV R L (Aa 5 0) (cl (L5 (leV t % 2 ^ (8 * i)))) (bI t) (t.length:Nat) (i:Nat)=_:=round (by kernel_rfl) (AK4 R L (Aa 5 0) _ (bI t) (t.length:Nat) (i:Nat))
   show xV R L (Aa 5 0) (cl (L5 (leV t % 2 ^ (8 * i)))) (bI t) (t.length:Nat) (i:Nat)=xV R L (Aa 5 0) (cl (L5 (leV t % 2 ^ (8 * i+8)))) (bI t) (t.length:Nat) ((i+1:Nat):Int)
   rw[hq,AN5 hi,nn,tn,zT (by rw[A9b];exact hi),A93]
   simp only[Ah]
   exact BM2 hl hn i hi _ _ _)
  0 rfl).1
 rw[hq]
 show xV R L (Aa 5 0) (Aa 5 0) (bI t) ((bI t).length:Nat) 0=_
 rw[A9b]
 refine AQ ?_ this
 rw[AJ,Nat.mod_one]
 rfl
end Go.Rf.S

end
section
namespace Go.Rf.S
set_option maxRecDepth 100000
def stP (t:List UInt8) (i:Nat) (o:List Nat):List Nat:=
 let o1:=o.set (8 * i / 26) (o.getD (8 * i / 26) 0+bt t i * 2 ^ (8 * i % 26) % 67108864)
 if 18 < 8 * i % 26∧8 * i / 26 < 4 then o1.set (8 * i / 26+1) (o1.getD (8 * i / 26+1) 0+bt t i / 2 ^ (26 - 8 * i % 26)) else o1
theorem sh2 (b:Nat):b * 16777216 % 67108864+67108864 * (b / 4)=b * 16777216:=by
 rw[show (67108864:Nat)=4 * 16777216 from rfl,AM]
 omega
theorem sh4 (b:Nat):b * 4194304 % 67108864+67108864 * (b / 16)=b * 4194304:=by
 rw[show (67108864:Nat)=16 * 4194304 from rfl,AM]
 omega
theorem sh6 (b:Nat):b * 1048576 % 67108864+67108864 * (b / 64)=b * 1048576:=by
 rw[show (67108864:Nat)=64 * 1048576 from rfl,AM]
 omega
theorem A7N (b0 b1 b2 b3 b4 b5 b6 b7 b8 b9 b10 b11 b12 b13 b14 b15 b16 x3 x6 x9 y3 y6 y9:Nat) (e3:x3+67108864 * y3=b3 * 16777216) (e6:x6+67108864 * y6=b6 * 4194304) (e9:x9+67108864 * y9=b9 * 1048576):
  val (0+b0 * 1+b1 * 256+b2 * 65536+x3) (0+y3+b4 * 64+b5 * 16384+x6) (0+y6+b7 * 16+b8 * 4096+x9) (0+y9+b10 * 4+b11 * 1024+b12 * 262144) (0+b13 * 1+b14 * 256+b15 * 65536+b16 * 16777216) =
  b0+256 * (b1+256 * (b2+256 * (b3+256 * (b4+256 * (b5+256 * (b6+256 * (b7+256 * (b8+256 * (b9+256 * (b10+256 * (b11+256 * (b12+256 * (b13+256 * (b14+256 * (b15+256 * (b16+256 * 0)))))))))))))))):=by
 unfold val
 omega
theorem A6M {b0 b1 b2 b3 b4 b5 b6 b7 b8 b9 b10 b11 b12 b13 b14 b15 b16 : Nat} (h0 : b0 < 256) (h1 : b1 < 256) (h2 : b2 < 256) (h3 : b3 < 256) (h4 : b4 < 256) (h5 : b5 < 256) (h6 : b6 < 256) (h7 : b7 < 256) (h8 : b8 < 256) (h9 : b9 < 256) (h10 : b10 < 256) (h11 : b11 < 256) (h12 : b12 < 256) (h13 : b13 < 256) (h14 : b14 < 256) (h15 : b15 < 256) (h16 : b16 < 4) :
    [0 + b0 * 1 % 67108864 + b1 * 256 % 67108864 + b2 * 65536 % 67108864 + b3 * 16777216 % 67108864,
     0 + b3 / 4 + b4 * 64 % 67108864 + b5 * 16384 % 67108864 + b6 * 4194304 % 67108864,
     0 + b6 / 16 + b7 * 16 % 67108864 + b8 * 4096 % 67108864 + b9 * 1048576 % 67108864,
     0 + b9 / 64 + b10 * 4 % 67108864 + b11 * 1024 % 67108864 + b12 * 262144 % 67108864,
     0 + b13 * 1 % 67108864 + b14 * 256 % 67108864 + b15 * 65536 % 67108864 + b16 * 16777216 % 67108864] =
    L5 (b0 + 256 * (b1 + 256 * (b2 + 256 * (b3 + 256 * (b4 + 256 * (b5 + 256 * (b6 + 256 * (b7 + 256 * (b8 + 256 * (b9 + 256 * (b10 + 256 * (b11 + 256 * (b12 + 256 * (b13 + 256 * (b14 + 256 * (b15 + 256 * (b16 + 256 * 0))))))))))))))))) := by
  have v : val (0 + b0 * 1 % 67108864 + b1 * 256 % 67108864 + b2 * 65536 % 67108864 + b3 * 16777216 % 67108864) (0 + b3 / 4 + b4 * 64 % 67108864 + b5 * 16384 % 67108864 + b6 * 4194304 % 67108864)
     (0 + b6 / 16 + b7 * 16 % 67108864 + b8 * 4096 % 67108864 + b9 * 1048576 % 67108864) (0 + b9 / 64 + b10 * 4 % 67108864 + b11 * 1024 % 67108864 + b12 * 262144 % 67108864)
     (0 + b13 * 1 % 67108864 + b14 * 256 % 67108864 + b15 * 65536 % 67108864 + b16 * 16777216 % 67108864) =
    b0 + 256 * (b1 + 256 * (b2 + 256 * (b3 + 256 * (b4 + 256 * (b5 + 256 * (b6 + 256 * (b7 + 256 * (b8 + 256 * (b9 + 256 * (b10 + 256 * (b11 + 256 * (b12 + 256 * (b13 + 256 * (b14 + 256 * (b15 + 256 * (b16 + 256 * 0)))))))))))))))) := by
    rw [Aw (a := b0 * 1) (by omega), Aw (a := b1 * 256) (by omega), Aw (a := b2 * 65536) (by omega), Aw (a := b4 * 64) (by omega), Aw (a := b5 * 16384) (by omega), Aw (a := b7 * 16) (by omega), Aw (a := b8 * 4096) (by omega), Aw (a := b10 * 4) (by omega), Aw (a := b11 * 1024) (by omega), Aw (a := b12 * 262144) (by omega), Aw (a := b13 * 1) (by omega), Aw (a := b14 * 256) (by omega), Aw (a := b15 * 65536) (by omega), Aw (a := b16 * 16777216) (by omega)]
    exact A7N _ _ _ _ _ _ _ _ _ _ _ _ _ _ _ _ _ _ _ _ _ _ _ (sh2 b3) (sh4 b6) (sh6 b9)
  rw [← v]
  refine (A8o ?_ ?_ ?_ ?_ ?_).symm <;> omega
theorem BP8 {t:List UInt8} (h:t.length=17):leV t=bt t 0+256 * (bt t 1+256 * (bt t 2+256 * (bt t 3+256 * (bt t 4+256 * (bt t 5+256 * (bt t 6+256 * (bt t 7+256 * (bt t 8+256 * (bt t 9+256 * (bt t 10+256 * (bt t 11+256 * (bt t 12+256 * (bt t 13+256 * (bt t 14+256 * (bt t 15+256 * (bt t 16+256 * 0)))))))))))))))):=by
 match t,h with
 | [a,b,c,d,e,f,g,h,i,j,k,l,m,n,o,p,q],_=>rfl
theorem A0p (t:List UInt8) (hl:t.length=17) (h16:bt t 16 < 4):nE R t=some (cl (L5 (leV t)),()):=by
 have hq:nE R t=_:=call (Av1 R L t)
 have:=(yE (fun (o:List Nat) i=>wM R L t (Aa 5 0) (cl o) i) (stP t) (fun i o=>o.length=5∧Bd (1+i * 134217728) o) 17
  (fun o=>some (cl o,()))
  (fun o hs=>by
   have hq:wM R L t (Aa 5 0) (cl o) (17:Nat)=_:=round (by kernel_rfl) (AF8 R L t (Aa 5 0) (cl o) (17:Nat))
   show wM R L t (Aa 5 0) (cl o) (17:Nat)=_
   rw[hq,show decide (((17:Nat):Int) < 17)=false from by decide]
   rfl)
  (fun o i hi hs=>by
   have hq:wM R L t (Aa 5 0) (cl o) (i:Nat)=_:=round (by kernel_rfl) (AF8 R L t (Aa 5 0) (cl o) (i:Nat))
   have hb:=sI t i
   have hpos:0 < 1+i * 134217728:=by omega
   have hg:=hs.2.get hpos (8 * i / 26)
   have hg1:=hs.2.get hpos (8 * i / 26+1)
   have hm:=Ay (bt t i * 2 ^ (8 * i % 26)) (show 0 < 67108864 by decide)
   have hd:bt t i / 2 ^ (26 - 8 * i % 26)≤bt t i:=AT _ _
   have hmono:Bd (1+(i+1) * 134217728) o:=fun z hz=>Av (hs.2 z hz) (by omega)
   refine⟨?_,?_⟩
   ·show wM R L t (Aa 5 0) (cl o) (i:Nat)=_
    have e8:Ab .i64 (8 * (i:Int))=((8 * i:Nat):Int):=by rw[show (8:Int)=((8:Nat):Int) from rfl,lY (by simp only[uV];omega)]
    have et:Bg ((8 * i:Nat):Int) 26=((8 * i / 26:Nat):Int):=rfl
    have em:AA ((8 * i:Nat):Int) 26=((8 * i % 26:Nat):Int):=rfl
    have hs26:8 * i % 26 < 26:=Ay _ (by decide)
    have hp:=BP0 hs26
    have hmul:bt t i * 2 ^ (8 * i % 26)≤255 * 33554432:=Br (by omega) hp.2
    have hmn:A0 (8 * i % 26) (Am .i64)=8 * i % 26:=Au (by show _≤64;omega)
    have hw0:Ab .i64 ((Bq (t.getD i 0):Nat):Int)=((bt t i:Nat):Int):=tV (by show bt t i < _;omega)
    have hsh:Ab .i64 (((bt t i:Nat):Int) * 2 ^ (8 * i % 26))=((bt t i * 2 ^ (8 * i % 26):Nat):Int):=by rw[A3m,tV (by omega)]
    rw[hq,show decide ((i:Int) < 17)=true from Ai (by omega),e8,et,em,tV (n:=8 * i / 26) (by omega)]
    simp only[nn,tn]
    rw[zT (n:=t.length) (by omega),zT (n:=5) (show 8 * i / 26 < 5 by omega),show decide (((8 * i % 26:Nat):Int) < 0)=false from Ak (by omega),hmn,hw0,hsh,m26 (by simp only[uV];omega) (by decide),zY,wT (by simp only[uV];omega),uB,zB (i:=i) (by omega)]
    simp only[Ah,Aj]
    unfold stP
    by_cases h18:18 < 8 * i % 26
    ·rw[show decide ((18:Int) < ((8 * i % 26:Nat):Int))=true from Ai (by omega)]
     simp only[Ah]
     by_cases h4:8 * i / 26 < 4
     ·rw[show decide (((8 * i / 26:Nat):Int) < 4)=true from Ai (by omega),zB (i:=8 * i / 26) (by omega)]
      simp only[Ah,nn,tn]
      have e26:Ab .i64 (26 - ((8 * i % 26:Nat):Int))=((26 - 8 * i % 26:Nat):Int):=by rw[yI (by omega) (by omega)];omega
      have hmn2:A0 (26 - 8 * i % 26) (Am .i64)=26 - 8 * i % 26:=Au (by show _≤64;omega)
      rw[zT (n:=5) (show 8 * i / 26+1 < 5 by omega),e26,show decide (((26 - 8 * i % 26:Nat):Int) < 0)=false from Ak (by omega),tn,hmn2,mE,zY,pK (by omega),wT (by simp only[uV];omega),uB,A7 ⟨h18,h4⟩]
      simp only[Ah,Aj]
      first|done|rw[pK (by omega)]
     ·rw[show decide (((8 * i / 26:Nat):Int) < 4)=false from Ak (by omega),A4 (fun h=>h4 h.2)]
      rfl
    ·rw[show decide ((18:Int) < ((8 * i % 26:Nat):Int))=false from Ak (by omega),A4 (fun h=>h18 h.1)]
     rfl
   ·unfold stP
    simp only
    split
    ·exact⟨by simp[hs.1],(hmono.set (by omega)).set (by rw[pK (by omega)];omega)⟩
    ·exact⟨by simp[hs.1],hmono.set (by omega)⟩)
  (Aa 5 0) ⟨rfl,Bd.rep (by omega)⟩).1
 rw[hq]
 refine this.trans ?_
 rw[BP8 hl,← A6M (sI _ _) (sI _ _) (sI _ _) (sI _ _) (sI _ _) (sI _ _) (sI _ _) (sI _ _) (sI _ _) (sI _ _) (sI _ _) (sI _ _) (sI _ _) (sI _ _) (sI _ _) (sI _ _) h16]
 kernel_rfl
end Go.Rf.S

end
section
namespace Go.Rf.S
set_option maxRecDepth 100000
def ADD (x y:List Nat):List Nat:=[x.getD 0 0+y.getD 0 0,x.getD 1 0+y.getD 1 0,x.getD 2 0+y.getD 2 0,x.getD 3 0+y.getD 3 0,x.getD 4 0+y.getD 4 0]
def BF4 (y:List Nat) (i:Nat) (x:List Nat):List Nat:=x.set i (x.getD i 0+y.getD i 0)
theorem A83 (x y:List Nat) (h:x.length=5):xO (BF4 y) 5 0 x=ADD x y:=by
 match x,h with
 | [a,b,c,d,e],_=>rfl
theorem A9W (x y:List Nat):vl (ADD x y)=vl x+vl y:=by
 show val _ _ _ _ _=val _ _ _ _ _+val _ _ _ _ _
 unfold val
 simp only[ADD,Bx,By]
 omega
theorem A6j {x y:List Nat} (hx:Bd 67108864 x) (hy:Bd 67108864 y):Bd 134217728 (ADD x y):=by
 have g:=fun i=>hx.get (by decide) i
 have k:=fun i=>hy.get (by decide) i
 have g0:=g 0;have g1:=g 1;have g2:=g 2;have g3:=g 3;have g4:=g 4
 have k0:=k 0;have k1:=k 1;have k2:=k 2;have k3:=k 3;have k4:=k 4
 exact bd5 (by omega) (by omega) (by omega) (by omega) (by omega)
def BI9 (x0:List Nat) (i:Nat) (x:List Nat):Prop:=x.length=5∧∀ j,i≤j→x.getD j 0=x0.getD j 0
theorem BI9.step {x0 y x:List Nat} {i:Nat} (h:BI9 x0 i x):BI9 x0 (i+1) (BF4 y i x):=⟨by simp[BF4,h.1],fun j hj=>by
 unfold BF4
 rw[pK (by omega)];exact h.2 j (by omega)⟩
theorem A8N (x y:List Nat) (hl:x.length=5) (hx:Bd 67108864 x) (hy:Bd 67108864 y):lO R (cl x) (cl y)=some (cl (CAR (ADD x y)),()):=by
 have hq:lO R (cl x) (cl y)=_:=call (Ag4 R L (cl x) (cl y))
 have:=(yE (fun (z:List Nat) i=>vB R L (cl z) (cl y) (Aa 5 0) i) (BF4 y) (BI9 x) 5
  (fun z=>(xM R (cl z)).bind fun r0=>some (r0.1,()))
  (fun z hs=>by
   have hq:vB R L (cl z) (cl y) (Aa 5 0) (5:Nat)=_:=round (by kernel_rfl) (cR R L (cl z) (cl y) (Aa 5 0) (5:Nat))
   show vB R L (cl z) (cl y) (Aa 5 0) (5:Nat)=_
   rw[hq,show decide (((5:Nat):Int) < 5)=false from by decide]
   rfl)
  (fun z i hi hs=>by
   have hq:vB R L (cl z) (cl y) (Aa 5 0) (i:Nat)=_:=round (by kernel_rfl) (cR R L (cl z) (cl y) (Aa 5 0) (i:Nat))
   refine⟨?_,hs.step⟩
   show vB R L (cl z) (cl y) (Aa 5 0) (i:Nat)=_
   have hg:=hx.get (by decide) i
   have hk:=hy.get (by decide) i
   have he:=hs.2 i (Ao _)
   rw[hq,show decide ((i:Int) < 5)=true from Ai (by omega)]
   simp only[nn,tn]
   rw[zT (n:=5) hi,zY,zY,wT (by simp only[uV];omega),uB,zB (i:=i) (by omega)]
   rfl)
  x ⟨hl,fun _ _=>rfl⟩).1
 rw[hq]
 refine this.trans ?_
 rw[A83 _ _ hl]
 show (xM R (cl (ADD x y))).bind _=_
 rw[AH8 _ rfl (fun z hz=>Av (A6j hx hy z hz) (by decide))]
 rfl
theorem A8l (x y:List Nat) (hl:x.length=5) (hx:Bd 67108864 x) (hy:Bd 67108864 y) (v0 v1:List UInt8) (v5:List Int) (v7:Int):
  uM R L v0 v1 v5 (cl x) v7 (cl y) (0:Int)=(nL R (cl (ADD x y)) v5).bind fun r0=>tF R L v0 v1 v5 r0.1 (Ab .i64 (v7+16)):=by
 have:=(yE (fun (z:List Nat) i=>uM R L v0 v1 v5 (cl z) v7 (cl y) i) (BF4 y) (BI9 x) 5
  (fun z=>(nL R (cl z) v5).bind fun r0=>tF R L v0 v1 v5 r0.1 (Ab .i64 (v7+16)))
  (fun z hs=>by
   have hq:uM R L v0 v1 v5 (cl z) v7 (cl y) (5:Nat)=_:=round (by kernel_rfl) (AU4 R L v0 v1 v5 (cl z) v7 (cl y) (5:Nat))
   show uM R L v0 v1 v5 (cl z) v7 (cl y) (5:Nat)=_
   rw[hq,show decide (((5:Nat):Int) < 5)=false from by decide]
   rfl)
  (fun z i hi hs=>by
   have hq:uM R L v0 v1 v5 (cl z) v7 (cl y) (i:Nat)=_:=round (by kernel_rfl) (AU4 R L v0 v1 v5 (cl z) v7 (cl y) (i:Nat))
   refine⟨?_,hs.step⟩
   show uM R L v0 v1 v5 (cl z) v7 (cl y) (i:Nat)=_
   have hg:=hx.get (by decide) i
   have hk:=hy.get (by decide) i
   have he:=hs.2 i (Ao _)
   rw[hq,show decide ((i:Int) < 5)=true from Ai (by omega)]
   simp only[nn,tn]
   rw[zT (n:=5) hi,zY,zY,wT (by simp only[uV];omega),uB,zB (i:=i) (by omega)]
   rfl)
  x ⟨hl,fun _ _=>rfl⟩).1
 refine this.trans ?_
 rw[A83 _ _ hl]
def RED (x:List Nat):List Nat:=if PP≤vl x then L5 (vl x - PP) else x
theorem A80 {x:List Nat} (h:Can x):RED x=L5 (if PP≤vl x then vl x - PP else vl x):=by
 unfold RED
 split
 ·rfl
 ·have g:=fun i=>h.b.get (by decide) i
  exact (A3i h.l).trans (A8o (g 0) (g 1) (g 2) (g 3) (g 4)).symm
theorem BK7 {x:List Nat} (h:Can x):vl x < 1361129467683753853853498429727072845824:=by
 have g:=fun i=>h.b.get (by decide) i
 exact BI1 (g 0) (g 1) (g 2) (g 3) (g 4)
def lst:List Nat:=[67108859,67108863,67108863,67108863,67108863]
theorem A8i (x:List Nat) (hx:Can x) (v2:List Int) (i:Nat) (hi:i < 5):yZ R L (cl x) v2 (cl lst) (i:Int) =
  if x.getD i 0=lst.getD i 0 then yZ R L (cl x) v2 (cl lst) ((i:Int) - 1) else if x.getD i 0 < lst.getD i 0 then some (cl x,()) else zR R L (cl x) v2 (cl lst) 0:=by
 have hq:yZ R L (cl x) v2 (cl lst) (i:Int)=_:=round (by kernel_rfl) (gF R L (cl x) v2 (cl lst) (i:Int))
 rw[hq,show decide ((0:Int)≤(i:Int))=true from Ai (by omega),yI (n:=(i:Int) - 1) (by omega) (by omega)]
 simp only[nn,tn]
 rw[zT (n:=5) hi,zY,zY,uS]
 simp only[Ah]
 by_cases h:x.getD i 0=lst.getD i 0
 ·rw[A7 h,h];simp
 ·rw[A4 h,show decide (((x.getD i 0:Nat):Int)=((lst.getD i 0:Nat):Int))=false from Ak (by omega)]
  simp only[A8,Ah]
  by_cases h2:x.getD i 0 < lst.getD i 0
  ·rw[A7 h2,show decide (((x.getD i 0:Nat):Int) < ((lst.getD i 0:Nat):Int))=true from Ai (by omega)];rfl
  ·rw[A4 h2,show decide (((x.getD i 0:Nat):Int) < ((lst.getD i 0:Nat):Int))=false from Ak (by omega)];rfl
theorem BI2 (l:List Nat) (a b c d e:Nat):xO (fun i (z:List Nat)=>z.set i (z.getD i 0 - l.getD i 0)) 5 0 [a,b,c,d,e]=[a - l.getD 0 0,b - l.getD 1 0,c - l.getD 2 0,d - l.getD 3 0,e - l.getD 4 0]:=rfl
theorem A94 (a:Nat) (ha:a < 67108864) (h:67108859≤a) (v2:List Int):zR R L (cl [a,67108863,67108863,67108863,67108863]) v2 (cl lst) (0:Int)=some (cl [a - 67108859,0,0,0,0],()):=by
 have:=(yE (fun (z:List Nat) i=>zR R L (cl z) v2 (cl lst) i) (fun i z=>z.set i (z.getD i 0 - lst.getD i 0)) (fun i z=>z.length=5∧∀ j,i≤j→z.getD j 0=[a,67108863,67108863,67108863,67108863].getD j 0) 5
  (fun z=>some (cl z,()))
  (fun z hs=>by
   have hq:zR R L (cl z) v2 (cl lst) (5:Nat)=_:=round (by kernel_rfl) (hO R L (cl z) v2 (cl lst) (5:Nat))
   show zR R L (cl z) v2 (cl lst) (5:Nat)=_
   rw[hq,show decide (((5:Nat):Int) < 5)=false from by decide]
   rfl)
  (fun z i hi hs=>by
   have hq:zR R L (cl z) v2 (cl lst) (i:Nat)=_:=round (by kernel_rfl) (hO R L (cl z) v2 (cl lst) (i:Nat))
   refine⟨?_,by simp[hs.1],fun j hj=>by rw[pK (by omega)];exact hs.2 j (by omega)⟩
   show zR R L (cl z) v2 (cl lst) (i:Nat)=_
   have he:=hs.2 i (Ao _)
   have hge:lst.getD i 0≤z.getD i 0∧z.getD i 0 < 67108864:=by
    rw[he]
    match i,hi with
    | 0,_=>exact⟨h,ha⟩
    | 1,_=>exact⟨Ao 67108863,(by decide:(67108863:Nat) < 67108864)⟩
    | 2,_=>exact⟨Ao 67108863,(by decide:(67108863:Nat) < 67108864)⟩
    | 3,_=>exact⟨Ao 67108863,(by decide:(67108863:Nat) < 67108864)⟩
    | 4,_=>exact⟨Ao 67108863,(by decide:(67108863:Nat) < 67108864)⟩
   rw[hq,show decide ((i:Int) < 5)=true from Ai (by omega)]
   simp only[nn,tn]
   rw[zT (n:=5) hi,zY,zY,show ((z.getD i 0:Nat):Int) - ((lst.getD i 0:Nat):Int)=((z.getD i 0 - lst.getD i 0:Nat):Int) from by omega,AL0 (by simp only[uV];omega),uB,zB (i:=i) (by omega)]
   simp only[Ah])
  [a,67108863,67108863,67108863,67108863] ⟨rfl,fun _ _=>rfl⟩).1
 refine this.trans ?_
 have:=BI2 lst a 67108863 67108863 67108863 67108863
 rw[this,show lst.getD 0 0=67108859 from rfl,show lst.getD 1 0=67108863 from rfl,show lst.getD 2 0=67108863 from rfl,show lst.getD 3 0=67108863 from rfl,show lst.getD 4 0=67108863 from rfl,Bl]
theorem A1E (x:List Nat) (hx:Can x):pS R (cl x)=some (cl (RED x),()):=by
 have hq:pS R (cl x)=_:=call (AP9 R L (cl x))
 rw[hq,AH8 x hx.l (fun z hz=>Av (hx.b z hz) (by decide)),A9A hx]
 simp only[Ac]
 have g:=fun i=>hx.b.get (by decide) i
 have hl:=A3i hx.l
 have r:=fun i hi=>A8i x hx (Aa 5 0) i hi
 show yZ R L (cl x) (Aa 5 0) (cl lst) ((4:Nat):Int)=_
 generalize ha:x.getD 0 0=a at *
 generalize hb:x.getD 1 0=b at *
 generalize hc:x.getD 2 0=c at *
 generalize hd:x.getD 3 0=d at *
 generalize he:x.getD 4 0=e at *
 have ga:a < 67108864:=ha▸g 0
 have gb:b < 67108864:=hb▸g 1
 have gc:c < 67108864:=hc▸g 2
 have gd:d < 67108864:=hd▸g 3
 have ge:e < 67108864:=he▸g 4
 have hv:vl x=val a b c d e:=by rw[hl];rfl
 have small:val a b c d e < PP→some (cl x,())=some (cl (RED x),()):=fun h=>by
  unfold RED
  rw[A4 (by rw[hv];omega)]
 have end_:∀ z v2 v3,yZ R L z v2 v3 (-1)=zR R L z v2 v3 0:=fun z v2 v3=>by
  have hq:yZ R L z v2 v3 (-1)=_:=round (by kernel_rfl) (gF R L z v2 v3 (-1))
  rw[hq];rfl
 rw[r 4 (by decide),he]
 show (if e=67108863 then _ else if e < 67108863 then _ else _)=_
 by_cases h4:e=67108863
 ·rw[A7 h4,show ((4:Nat):Int) - 1=((3:Nat):Int) from rfl,r 3 (by decide),hd]
  show (if d=67108863 then _ else if d < 67108863 then _ else _)=_
  by_cases h3:d=67108863
  ·rw[A7 h3,show ((3:Nat):Int) - 1=((2:Nat):Int) from rfl,r 2 (by decide),hc]
   show (if c=67108863 then _ else if c < 67108863 then _ else _)=_
   by_cases h2:c=67108863
   ·rw[A7 h2,show ((2:Nat):Int) - 1=((1:Nat):Int) from rfl,r 1 (by decide),hb]
    show (if b=67108863 then _ else if b < 67108863 then _ else _)=_
    by_cases h1:b=67108863
    ·rw[A7 h1,show ((1:Nat):Int) - 1=((0:Nat):Int) from rfl,r 0 (by decide),ha,show ((0:Nat):Int) - 1=-1 from rfl,end_]
     show (if a=67108859 then _ else if a < 67108859 then _ else _)=_
     have big:67108859≤a→zR R L (cl x) (Aa 5 0) (cl lst) 0=some (cl (RED x),()):=fun h=>by
      have hx':x=[a,67108863,67108863,67108863,67108863]:=by rw[hl,h1,h2,h3,h4]
      have hv2:vl x=PP+(a - 67108859):=by rw[hv,h1,h2,h3,h4];unfold val PP;omega
      have hr:RED x=[a - 67108859,0,0,0,0]:=by
       unfold RED
       rw[A7 (by omega),hv2,Nat.add_sub_cancel_left]
       have:=A8o (a:=a - 67108859) (b:=0) (c:=0) (d:=0) (e:=0) (by omega) (by decide) (by decide) (by decide) (by decide)
       rw[← this,show val (a - 67108859) 0 0 0 0=a - 67108859 from by unfold val;omega]
      rw[hr,hx']
      exact A94 a ga h _
     by_cases h0:a=67108859
     ·rw[A7 h0];exact big (by omega)
     ·rw[A4 h0]
      by_cases h0':a < 67108859
      ·rw[A7 h0'];exact small (by unfold val PP;omega)
      ·rw[A4 h0'];exact big (by omega)
    ·rw[A4 h1,A7 (by omega)];exact small (by unfold val PP;omega)
   ·rw[A4 h2,A7 (by omega)];exact small (by unfold val PP;omega)
  ·rw[A4 h3,A7 (by omega)];exact small (by unfold val PP;omega)
 ·rw[A4 h4,A7 (by omega)];exact small (by unfold val PP;omega)
end Go.Rf.S

end
section
namespace Go.Rf.S
set_option maxRecDepth 100000
theorem A9l (a b c d e:Nat):xO BK1 4 0 [a,b,c,d,e]=[a % 67108864,(b+a / 67108864) % 67108864,(c+(b+a / 67108864) / 67108864) % 67108864,(d+(c+(b+a / 67108864) / 67108864) / 67108864) % 67108864,e+(d+(c+(b+a / 67108864) / 67108864) / 67108864) / 67108864]:=rfl
theorem A8P (x:List Nat) (hx:Can x):dY R (cl x)=some (cl (RED x),()):=by
 have hq:dY R (cl x)=_:=call (A2Y R L (cl x))
 have g:=fun i=>hx.b.get (by decide) i
 have g0:=g 0;have g1:=g 1;have g2:=g 2;have g3:=g 3;have g4:=g 4
 have hl:=A3i hx.l
 have e0:(cl x).set (Aq 0) (Ab .i64 ((cl x).getD (Aq 0) 0+5))=cl (x.set 0 (x.getD 0 0+5)):=by
  rw[show Aq 0=0 from rfl,zY,show (5:Int)=((5:Nat):Int) from rfl,wT (by simp only[uV];omega),uB]
 have:=(yE (fun (z:List Nat) i=>tJ R L (cl x) (Aa 5 0) (cl z) i) BK1
  (fun i z=>z.length=5∧Bd (134217728+i * 1099511627776) z) 4
  (fun z=>cond (eqI ((z.getD 4 0 / 67108864:Nat):Int) 0) (some (cl x,())) (some (cl (z.set 4 (z.getD 4 0 % 67108864)),())))
  (fun z hs=>by
   obtain⟨h1,h2⟩:=hs
   have hq:tJ R L (cl x) (Aa 5 0) (cl z) (4:Nat)=_:=round (by kernel_rfl) (AN1 R L (cl x) (Aa 5 0) (cl z) (4:Nat))
   have hg4:=h2.get (by decide) 4
   show tJ R L (cl x) (Aa 5 0) (cl z) (4:Nat)=_
   rw[hq,show decide (((4:Nat):Int) < 4)=false from by decide]
   simp only[Aj]
   have ed:AX ((cl z).getD 4 0) (2 ^ A0 (Aq 26) (Am .i64))=((z.getD 4 0 / 67108864:Nat):Int):=by rw[zY];exact mE _ 26
   rw[show Aq 4=4 from rfl,ed,zY,m26 (by simp only[uV];omega) (by decide),uB])
  (fun x' i hi hs=>by
   obtain⟨h1,h2⟩:=hs
   have hq:tJ R L (cl x) (Aa 5 0) (cl x') (i:Nat)=_:=round (by kernel_rfl) (AN1 R L (cl x) (Aa 5 0) (cl x') (i:Nat))
   have hpos:0 < 134217728+i * 1099511627776:=by omega
   have hg:=h2.get hpos i
   have hg1:=h2.get hpos (i+1)
   have hmono:Bd (134217728+(i+1) * 1099511627776) x':=fun y hy=>Av (h2 y hy) (by omega)
   refine⟨?_,by simp[BK1,h1],(hmono.set (by omega)).set (Av (Ay _ (by decide)) (by omega))⟩
   show tJ R L (cl x) (Aa 5 0) (cl x') (i:Nat)=_
   have ed:AX ((cl x').getD i 0) (2 ^ A0 (Aq 26) (Am .i64))=((x'.getD i 0 / 67108864:Nat):Int):=by rw[zY];exact mE _ 26
   rw[hq,show decide ((i:Int) < 4)=true from Ai (by omega),zB (by omega)]
   simp only[nn,tn]
   rw[zT (n:=5) (show i+1 < 5 by omega),zT (n:=5) (show i < 5 by omega),ed,zY,wT (by simp only[uV];omega),uB,zY,pK (by omega),m26 (by simp only[uV];omega) (by decide),uB]
   simp only[Ah]
   rfl)
  (x.set 0 (x.getD 0 0+5)) ⟨by simp[hx.l],Bd.set (fun y hy=>Av (hx.b y hy) (by decide)) (by omega)⟩).1
 rw[hq,e0]
 refine this.trans ?_
 generalize ha:x.getD 0 0=a at *
 generalize hb:x.getD 1 0=b at *
 generalize hc:x.getD 2 0=c at *
 generalize hd:x.getD 3 0=d at *
 generalize he:x.getD 4 0=e at *
 have hset:x.set 0 (a+5)=[a+5,b,c,d,e]:=by rw[hl];rfl
 have hv:vl x=val a b c d e:=by rw[hl];rfl
 rw[hset,A9l]
 generalize h1:b+(a+5) / 67108864=b1
 generalize h2:c+b1 / 67108864=c1
 generalize h3:d+c1 / 67108864=d1
 generalize h4:e+d1 / 67108864=e1
 show cond (eqI ((e1 / 67108864:Nat):Int) 0) _ (some (cl [(a+5) % 67108864,b1 % 67108864,c1 % 67108864,d1 % 67108864,e1 % 67108864],()))=_
 unfold RED
 by_cases hz:e1 / 67108864=0
 ·rw[hz,A4 (by rw[hv];unfold val PP;omega)];rfl
 ·have h1':e1 / 67108864=1:=by omega
  rw[h1',A7 (by rw[hv];unfold val PP;omega)]
  have hm:val ((a+5) % 67108864) (b1 % 67108864) (c1 % 67108864) (d1 % 67108864) (e1 % 67108864)=vl x - PP:=by
   rw[hv];unfold val PP;omega
  rw[← hm,A8o (Ay _ (by decide)) (Ay _ (by decide)) (Ay _ (by decide)) (Ay _ (by decide)) (Ay _ (by decide))]
  rfl
theorem BN0 (v q s:Nat) (hq:q < 5) (hs:s < 26):(L5 v).getD q 0 / 2 ^ s % 2=v / 2 ^ (26 * q+s) % 2:=by
 have e:(L5 v).getD q 0=v / 2 ^ (26 * q) % 67108864:=by
  match q,hq with
  | 0,_=>show v % 67108864=v / 2 ^ 0 % 67108864;rw[AJ,AP]
  | 1,_=>rfl
  | 2,_=>rfl
  | 3,_=>rfl
  | 4,_=>rfl
 rw[e,AR,← AD]
 generalize v / 2 ^ (26 * q)=m
 rw[show (67108864:Nat)=2 ^ s * (2 * 2 ^ (25 - s)) by rw[← Nat.pow_succ',← AR,show s+(25 - s).succ=26 by omega],AY,Bp]
theorem BI8 {m b x:Nat} (h:m < 2 ^ b) (hx:x < 2):m ||| x * 2 ^ b=m+x * 2 ^ b:=by
 rcases (show x=0∨x=1 by omega) with rfl|rfl
 ·simp
 ·rw[Nat.one_mul];exact A6Y h
def stG (v:Nat) (k:List UInt8) (i:Nat) (s:List Nat × Nat):List Nat × Nat:=
 (s.1++[(s.2+(v / 2 ^ (8 * i) % 256+bt k i)) % 256],(s.2+(v / 2 ^ (8 * i) % 256+bt k i)) / 256)
def BL7 (i:Nat) (s:List Nat × Nat):Prop:=s.1.length=i∧s.2≤2
theorem BL7.step {v i:Nat} {k:List UInt8} {s:List Nat × Nat} (h:BL7 i s):BL7 (i+1) (stG v k i s):=by
 have hb:=sI k i
 have hm:=Ay (v / 2 ^ (8 * i)) (show 0 < 256 by decide)
 have h2:=h.2
 refine⟨by simp[stG,h.1],?_⟩
 show (s.2+(v / 2 ^ (8 * i) % 256+bt k i)) / 256≤2
 omega
def BN6 (v:Nat) (k:List UInt8):List UInt8:=(xO (stG v k) 16 0 ([],0)).1.map fun n=>Ax n
theorem A9o (v:Nat) (k:List UInt8) (hk:k.length=16) (i:Nat) (hi:i < 16) (o:List Int) (ho:o.length=16) (c:Nat) (hc:c≤2):
  xH R L k (cl (L5 v)) o (c:Int) (i:Int) (0:Int) (16:Nat) (i:Int) (0:Int) =
   yT R L k (cl (L5 v)) (o.set i (((c+(v / 2 ^ (8 * i) % 256+bt k i)) % 256:Nat):Int)) (((c+(v / 2 ^ (8 * i) % 256+bt k i)) / 256:Nat):Int) (16:Nat) ((i+1:Nat):Int):=by
 have:=(yE (fun (w:Nat) b=>xH R L k (cl (L5 v)) o (c:Int) (i:Int) (w:Int) (16:Nat) (i:Int) b) (fun b _=>v / 2 ^ (8 * i) % 2 ^ (b+1)) (fun b w=>w=v / 2 ^ (8 * i) % 2 ^ b) 8
  (fun w=>yT R L k (cl (L5 v)) (o.set i (((c+(w+bt k i)) % 256:Nat):Int)) (((c+(w+bt k i)) / 256:Nat):Int) (16:Nat) ((i+1:Nat):Int))
  (fun w hw=>by
   have hq:xH R L k (cl (L5 v)) o (c:Int) (i:Int) (w:Int) (16:Nat) (i:Int) (8:Nat)=_:=round (by kernel_rfl) (eI R L k _ o (c:Int) (i:Int) (w:Int) (16:Nat) (i:Int) (8:Nat))
   show xH R L k (cl (L5 v)) o (c:Int) (i:Int) (w:Int) (16:Nat) (i:Int) (8:Nat)=_
   have hb:=sI k i
   have hw8:w < 256:=by rw[hw];exact Ay _ (by decide)
   have hw0:Ab .i64 ((Bq (k.getD i 0):Nat):Int)=((bt k i:Nat):Int):=tV (by show bt k i < _;omega)
   rw[hq,show decide (((8:Nat):Int) < 8)=false from by decide]
   simp only[Aj,nn,tn]
   rw[zT (by omega),zT (by omega),hw0,wT (by simp only[uV];omega),wT (by simp only[uV];omega),uY,zB (i:=i) (by omega)]
   simp only[Ah]
   rw[show AX ((c+(w+bt k i):Nat):Int) (2 ^ A0 (Aq 8) (Am .i64))=(((c+(w+bt k i)) / 256:Nat):Int) from mE _ 8])
  (fun w b hb hw=>by
   refine⟨?_,rfl⟩
   have hq:xH R L k (cl (L5 v)) o (c:Int) (i:Int) (w:Int) (16:Nat) (i:Int) (b:Nat)=_:=round (by kernel_rfl) (eI R L k _ o (c:Int) (i:Int) (w:Int) (16:Nat) (i:Int) (b:Nat))
   show xH R L k (cl (L5 v)) o (c:Int) (i:Int) (w:Int) (16:Nat) (i:Int) (b:Nat)=xH R L k (cl (L5 v)) o (c:Int) (i:Int) ((v / 2 ^ (8 * i) % 2 ^ (b+1):Nat):Int) (16:Nat) (i:Int) ((b+1:Nat):Int)
   have e8:Ab .i64 (Ab .i64 (8 * (i:Int))+(b:Int))=((8 * i+b:Nat):Int):=by
    rw[show (8:Int)=((8:Nat):Int) from rfl,lY (by simp only[uV];omega),wT (by simp only[uV];omega)]
   have et:Bg ((8 * i+b:Nat):Int) 26=(((8 * i+b) / 26:Nat):Int):=rfl
   have em:AA ((8 * i+b:Nat):Int) 26=(((8 * i+b) % 26:Nat):Int):=rfl
   have hs:(8 * i+b) % 26 < 26:=Ay _ (by decide)
   have hm2:A0 ((8 * i+b) % 26) (Am .u64)=(8 * i+b) % 26:=Au (by show _≤64;omega)
   have hm3:A0 b (Am .i64)=b:=Au (by show _≤64;omega)
   have hg:=(AV0 v).get (by decide) ((8 * i+b) / 26)
   have hdl:(L5 v).getD ((8 * i+b) / 26) 0 / 2 ^ ((8 * i+b) % 26) < 67108864:=AZ (AT _ _) hg
   have hand:yU .and .u64 (((L5 v).getD ((8 * i+b) / 26) 0 / 2 ^ ((8 * i+b) % 26):Nat):Int) 1=((v / 2 ^ (8 * i) / 2 ^ b % 2:Nat):Int):=by
    rw[show (1:Int)=((1:Nat):Int) from rfl,AG5 (by simp only[uV];omega) (by decide),B4,BN0 v _ _ (by omega) hs,Bm,AR,← AD]
   have hbit:v / 2 ^ (8 * i) / 2 ^ b % 2 < 2:=Ay _ (by decide)
   have hp:2 ^ b≤128:=A3 (AB (by decide) (show b≤7 by omega)) (by decide)
   have hp1:1≤2 ^ b:=B3
   have hmu:v / 2 ^ (8 * i) / 2 ^ b % 2 * 2 ^ b≤1 * 128:=Br (by omega) hp
   have hw':w < 2 ^ b:=by rw[hw];exact Ay _ (BC _)
   rw[hq,show decide ((b:Int) < 8)=true from Ai (by omega),e8,et,em,tV (n:=(8 * i+b) / 26) (by omega)]
   simp only[nn,tn,Ah]
   rw[zT (n:=5) (by omega),show decide ((((8 * i+b) % 26:Nat):Int) < 0)=false from Ak (by omega),show decide ((b:Int) < 0)=false from Ak (by omega),hm2,hm3,zY,mE,hand,tV (n:=v / 2 ^ (8 * i) / 2 ^ b % 2) (by omega),A3m,tV (n:=v / 2 ^ (8 * i) / 2 ^ b % 2 * 2 ^ b) (by omega),Aa9 (by simp only[uV];omega) (by simp only[uV];omega),zB (i:=b) (by omega),BI8 hw' hbit,hw,← A2S]
   rfl)
  0 (by rw[AJ,Nat.mod_one])).1
 exact this
end Go.Rf.S

end
section
namespace Go.Rf.S
set_option maxRecDepth 100000
theorem Aa4 (a b:List Nat):cl (a++b)=cl a++cl b:=by unfold cl;exact AK
theorem BL6 (pre:List Nat) (n:Nat) (z:Nat):(cl pre++Aa (n+1) (0:Int)).set pre.length (z:Int)=cl (pre++[z])++Aa n (0:Int):=by
 rw[Aa4,Az,List.set_append_right _ _ (by rw[oI];exact Ao _),oI,Bl,AU]
 rfl
theorem Ax0 (pre:List Nat):A9 (fun n:Int=>Ax (Aq n)) (cl pre)=pre.map fun n=>Ax n:=by
 unfold cl
 rw[Bi]
 apply Bz
 intro n _
 show Ax (Aq (n:Int))=_
 rw[tn]
theorem A5c (v:Nat) (k:List UInt8) (hk:k.length=16):nY R (cl (L5 v)) k=some (BN6 v k,()):=by
 have hq:nY R (cl (L5 v)) k=_:=call (Ab6 R L (cl (L5 v)) k)
 have:=(yE (fun (s:List Nat × Nat) i=>yT R L k (cl (L5 v)) (cl s.1++Aa (16 - s.1.length) (0:Int)) (s.2:Int) (16:Nat) i) (stG v k) BL7 16
  (fun s=>some (s.1.map fun n=>Ax n,()))
  (fun s hs=>by
   have hq:yT R L k (cl (L5 v)) (cl s.1++Aa (16 - s.1.length) (0:Int)) (s.2:Int) (16:Nat) (16:Nat)=_:=round (by kernel_rfl) (eB R L k _ _ (s.2:Int) (16:Nat) (16:Nat))
   show yT R L k (cl (L5 v)) (cl s.1++Aa (16 - s.1.length) (0:Int)) (s.2:Int) (16:Nat) (16:Nat)=_
   rw[hq,AN4 (Ao _),hs.1,Bl,AV,AE,Ax0]
   rfl)
  (fun s i hi hs=>by
   refine⟨?_,hs.step⟩
   have hq:yT R L k (cl (L5 v)) (cl s.1++Aa (16 - s.1.length) (0:Int)) (s.2:Int) (16:Nat) (i:Nat)=_:=round (by kernel_rfl) (eB R L k _ _ (s.2:Int) (16:Nat) (i:Nat))
   show yT R L k (cl (L5 v)) (cl s.1++Aa (16 - s.1.length) (0:Int)) (s.2:Int) (16:Nat) (i:Nat)=yT R L k (cl (L5 v)) (cl (s.1++[(s.2+(v / 2 ^ (8 * i) % 256+bt k i)) % 256])++Aa (16 - (s.1++[(s.2+(v / 2 ^ (8 * i) % 256+bt k i)) % 256]).length) (0:Int)) (((s.2+(v / 2 ^ (8 * i) % 256+bt k i)) / 256:Nat):Int) (16:Nat) ((i+1:Nat):Int)
   rw[hq,AN5 hi]
   simp only[Ah]
   have hl:=hs.1
   rw[A9o v k hk i hi _ (by rw[Ae,oI,An];omega) s.2 hs.2,hl,show 16 - i=(15 - i)+1 by omega]
   have:=BL6 s.1 (15 - i) ((s.2+(v / 2 ^ (8 * i) % 256+bt k i)) % 256)
   rw[hl] at this
   rw[this,Ae,hl,show 16 - (i+[(s.2+(v / 2 ^ (8 * i) % 256+bt k i)) % 256].length)=15 - i by simp only[Ad,Af];omega])
  ([],0) ⟨rfl,Ar _⟩).1
 rw[hq]
 exact this
theorem BB6 (v i:Nat) (hi:i < 16):(18 < 8 * i % 26→((L5 v).getD (8 * i / 26) 0 / 2 ^ (8 * i % 26)+(L5 v).getD (8 * i / 26+1) 0 * 2 ^ (26 - 8 * i % 26)) % 256=v / 2 ^ (8 * i) % 256)∧(¬ 18 < 8 * i % 26→(L5 v).getD (8 * i / 26) 0 / 2 ^ (8 * i % 26) % 256=v / 2 ^ (8 * i) % 256):=by
 obtain rfl|rfl|rfl|rfl|rfl|rfl|rfl|rfl|rfl|rfl|rfl|rfl|rfl|rfl|rfl|rfl:i=0∨i=1∨i=2∨i=3∨i=4∨i=5∨i=6∨i=7∨i=8∨i=9∨i=10∨i=11∨i=12∨i=13∨i=14∨i=15:=by omega
 all_goals
  refine⟨fun h=>?_,fun h=>?_⟩
  all_goals first
   | (exfalso;revert h;decide)
   | (clear h;simp only[L5,Nat.reduceMul,Nat.reduceMod,Nat.reduceDiv,Nat.reduceAdd,Nat.reduceSub,Nat.reducePow,Bx,By];omega)
theorem BH0 (a:Nat):a &&& 255=a % 256:=Nat.and_two_pow_sub_one_eq_mod a 8
theorem BR3 {a:Nat} (h:a < uV .i64):yU .and .i64 (a:Int) 255=((a % 256:Nat):Int):=by
 rw[show (255:Int)=((255:Nat):Int) from rfl,AG5 h (by decide),BH0]
theorem A4N (v:Nat) (v0:List UInt8) (h0:v0.length=32):vH R L v0 (cl (L5 v)) ([]:List Int) (0:Int) (0:Int)=some (BN6 v (v0.drop 16),()):=by
 have:=(yE (fun (s:List Nat × Nat) i=>vH R L v0 (cl (L5 v)) (cl s.1) (s.2:Int) i) (stG v (v0.drop 16)) BL7 16
  (fun s=>some (s.1.map fun n=>Ax n,()))
  (fun s hs=>by
   have hq:vH R L v0 (cl (L5 v)) (cl s.1) (s.2:Int) (16:Nat)=_:=round (by kernel_rfl) (AS4 R L v0 _ _ (s.2:Int) (16:Nat))
   show vH R L v0 (cl (L5 v)) (cl s.1) (s.2:Int) (16:Nat)=_
   rw[hq,show decide (((16:Nat):Int) < 16)=false from by decide,Ax0]
   rfl)
  (fun s i hi hs=>by
   refine⟨?_,hs.step⟩
   have hq:vH R L v0 (cl (L5 v)) (cl s.1) (s.2:Int) (i:Nat)=_:=round (by kernel_rfl) (AS4 R L v0 _ _ (s.2:Int) (i:Nat))
   show vH R L v0 (cl (L5 v)) (cl s.1) (s.2:Int) (i:Nat)=vH R L v0 (cl (L5 v)) (cl (s.1++[(s.2+(v / 2 ^ (8 * i) % 256+bt (v0.drop 16) i)) % 256])) (((s.2+(v / 2 ^ (8 * i) % 256+bt (v0.drop 16) i)) / 256:Nat):Int) ((i+1:Nat):Int)
   obtain⟨hl,hc⟩:=hs
   have hbe:bt (v0.drop 16) i=bt v0 (16+i):=by
    unfold bt
    rw[Ag,Ag,AL]
   have hb:=sI v0 (16+i)
   have e8:Ab .i64 (8 * (i:Int))=((8 * i:Nat):Int):=by rw[show (8:Int)=((8:Nat):Int) from rfl,lY (by simp only[uV];omega)]
   have et:Bg ((8 * i:Nat):Int) 26=((8 * i / 26:Nat):Int):=rfl
   have em:AA ((8 * i:Nat):Int) 26=((8 * i % 26:Nat):Int):=rfl
   have e16:Ab .i64 (16+(i:Int))=((16+i:Nat):Int):=by rw[show (16:Int)=((16:Nat):Int) from rfl,wT (by simp only[uV];omega)]
   have hw0:Ab .i64 ((Bq (v0.getD (16+i) 0):Nat):Int)=((bt v0 (16+i):Nat):Int):=tV (by show bt v0 (16+i) < _;omega)
   have hs26:8 * i % 26 < 26:=Ay _ (by decide)
   have hmn:A0 (8 * i % 26) (Am .i64)=8 * i % 26:=Au (by show _≤64;omega)
   have hg:=(AV0 v).get (by decide) (8 * i / 26)
   have hg1:=(AV0 v).get (by decide) (8 * i / 26+1)
   have hdl:(L5 v).getD (8 * i / 26) 0 / 2 ^ (8 * i % 26)≤(L5 v).getD (8 * i / 26) 0:=AT _ _
   have hm:=Ay (v / 2 ^ (8 * i)) (show 0 < 256 by decide)
   obtain⟨b1,b2⟩:=BB6 v i hi
   rw[hq,show decide ((i:Int) < 16)=true from Ai (by omega),e8,et,em,e16,tV (n:=8 * i / 26) (by omega),hbe,zB (i:=i) (by omega)]
   simp only[nn,tn,Ah]
   rw[zT (n:=5) (show 8 * i / 26 < 5 by omega),show decide (((8 * i % 26:Nat):Int) < 0)=false from Ak (by omega),hmn,zT (n:=v0.length) (by omega),hw0,zY,mE]
   simp only[Ah,Aj]
   have h8:∀ z:Nat,AX ((z:Nat):Int) (2 ^ A0 (Aq 8) (Am .i64))=((z / 256:Nat):Int):=fun z=>mE _ 8
   by_cases h18:18 < 8 * i % 26
   ·rw[show decide ((18:Int) < ((8 * i % 26:Nat):Int))=true from Ai (by omega),zB (i:=8 * i / 26) (by omega)]
    simp only[Ah,nn,tn]
    have e26:Ab .i64 (26 - ((8 * i % 26:Nat):Int))=((26 - 8 * i % 26:Nat):Int):=by rw[yI (by omega) (by omega)];omega
    have hmn2:A0 (26 - 8 * i % 26) (Am .i64)=26 - 8 * i % 26:=Au (by show _≤64;omega)
    have hp2:2 ^ (26 - 8 * i % 26)≤128:=A3 (AB (by decide) (show 26 - 8 * i % 26≤7 by omega)) (by decide)
    have hmul:(L5 v).getD (8 * i / 26+1) 0 * 2 ^ (26 - 8 * i % 26)≤67108863 * 128:=Br (by omega) hp2
    rw[zT (n:=5) (show 8 * i / 26+1 < 5 by omega),e26,show decide (((26 - 8 * i % 26:Nat):Int) < 0)=false from Ak (by omega),tn,hmn2,zY,A3m,tV (n:=(L5 v).getD (8 * i / 26+1) 0 * 2 ^ (26 - 8 * i % 26)) (by omega),wT (by simp only[uV];omega),BR3 (by simp only[uV];omega),b1 h18,wT (by simp only[uV];omega),wT (by simp only[uV];omega),uY,h8,wC (by rw[oI];simp only[Ad,Af];omega)]
    simp only[Ah,Aj]
    rw[Aa4]
    rfl
   ·rw[show decide ((18:Int) < ((8 * i % 26:Nat):Int))=false from Ak (by omega)]
    simp only[Aj]
    rw[BR3 (by simp only[uV];omega),b2 h18,wT (by simp only[uV];omega),wT (by simp only[uV];omega),uY,h8,wC (by rw[oI];simp only[Ad,Af];omega)]
    simp only[Ah,Aj]
    rw[Aa4]
    rfl)
  ([],0) ⟨rfl,Ar _⟩).1
 exact this
end Go.Rf.S

end
section
namespace Go.Rf.S
set_option maxRecDepth 100000
def cs (m:Int) (i:Nat) (v:List Int):List Int:=v.set i (yU .and .u8 (v.getD i 0) m)
def A82 (v:List Int):List Int:=cs 252 12 (cs 252 8 (cs 252 4 (cs 15 15 (cs 15 11 (cs 15 7 (cs 15 3 v))))))
def cU (key:List UInt8):List UInt8:=A9 (fun n:Int=>Ax (Aq n)) (A82 (A9 (fun b:UInt8=>(b.toNat:Int)) (key.take 16)))
theorem nV (m:Int) (i:Nat) (v:List Int):(cs m i v).length=v.length:=by simp[cs]
theorem A34 {key:List UInt8} (h:16≤key.length):(cU key).length=16:=by
 unfold cU A82
 rw[At,nV,nV,nV,nV,nV,nV,nV,At,A6]
 omega
theorem ic0 (v:List Int) (hl:v.length=16) (i:Nat) (hi:i < 16):uN R L v (i:Int)=uN R L (cs 15 i v) ((i+4:Nat):Int):=by
 have hq:uN R L v (i:Int)=_:=round (by kernel_rfl) (AM9 R L v (i:Int))
 rw[hq,show decide ((i:Int) < 16)=true from Ai (by omega),show Ab .i64 ((i:Int)+4)=((i+4:Nat):Int) from by rw[yI (by omega) (by omega)];omega]
 simp only[nn,tn]
 rw[zT (by omega)]
 rfl
theorem ic1 (v:List Int) (hl:v.length=16) (i:Nat) (hi:i < 16):uJ R L v (i:Int)=uJ R L (cs 252 i v) ((i+4:Nat):Int):=by
 have hq:uJ R L v (i:Int)=_:=round (by kernel_rfl) (AK5 R L v (i:Int))
 rw[hq,show decide ((i:Int) < 16)=true from Ai (by omega),show Ab .i64 ((i:Int)+4)=((i+4:Nat):Int) from by rw[yI (by omega) (by omega)];omega]
 simp only[nn,tn]
 rw[zT (by omega)]
 rfl
theorem sc0 (v:List Int) (hl:v.length=16) (i:Nat) (hi:i < 16):vM R L v (i:Int)=vM R L (cs 15 i v) ((i+4:Nat):Int):=by
 have hq:vM R L v (i:Int)=_:=round (by kernel_rfl) (AC5 R L v (i:Int))
 rw[hq,show decide ((i:Int) < 16)=true from Ai (by omega),show Ab .i64 ((i:Int)+4)=((i+4:Nat):Int) from by rw[yI (by omega) (by omega)];omega]
 simp only[nn,tn]
 rw[zT (by omega)]
 rfl
theorem sc1 (v:List Int) (hl:v.length=16) (i:Nat) (hi:i < 16):vL R L v (i:Int)=vL R L (cs 252 i v) ((i+4:Nat):Int):=by
 have hq:vL R L v (i:Int)=_:=round (by kernel_rfl) (AD9 R L v (i:Int))
 rw[hq,show decide ((i:Int) < 16)=true from Ai (by omega),show Ab .i64 ((i:Int)+4)=((i+4:Nat):Int) from by rw[yI (by omega) (by omega)];omega]
 simp only[nn,tn]
 rw[zT (by omega)]
 rfl
theorem A0z (key:List UInt8) (h:16≤key.length):dG R key=some (cU key,()):=by
 have hq:dG R key=_:=call (A1a R L key)
 rw[hq,show Aq 16=16 from rfl,show B7 16 key.length=true from by rw[Bh];exact h,Ap]
 simp only[Ah]
 have l0:(A9 (fun b:UInt8=>(b.toNat:Int)) (key.take 16)).length=16:=by rw[At,A6];omega
 unfold cU
 generalize A9 (fun b:UInt8=>(b.toNat:Int)) (key.take 16)=v at l0 ⊢
 have e1:∀ v,uN R L v ((19:Nat):Int)=uJ R L v ((4:Nat):Int):=fun v=>by
  have hq:uN R L v ((19:Nat):Int)=_:=round (by kernel_rfl) (AM9 R L v ((19:Nat):Int))
  rw[hq];rfl
 have e2:∀ v,uJ R L v ((16:Nat):Int)=some (A9 (fun n:Int=>Ax (Aq n)) v,()):=fun v=>by
  have hq:uJ R L v ((16:Nat):Int)=_:=round (by kernel_rfl) (AK5 R L v ((16:Nat):Int))
  rw[hq];rfl
 show uN R L v ((3:Nat):Int)=_
 rw[ic0 v l0 3 (by decide),ic0 _ (by simp only[nV];exact l0) 7 (by decide),ic0 _ (by simp only[nV];exact l0) 11 (by decide),ic0 _ (by simp only[nV];exact l0) 15 (by decide),e1,
  ic1 _ (by simp only[nV];exact l0) 4 (by decide),ic1 _ (by simp only[nV];exact l0) 8 (by decide),ic1 _ (by simp only[nV];exact l0) 12 (by decide),e2]
 rfl
theorem A5I (key:List UInt8) (h:16≤key.length):fA R key=some (cU key,()):=by
 have hq:fA R key=_:=call (A0v R L key)
 rw[hq,show Aq 16=16 from rfl,show B7 16 key.length=true from by rw[Bh];exact h,Ap]
 simp only[Ah]
 have l0:(A9 (fun b:UInt8=>(b.toNat:Int)) (key.take 16)).length=16:=by rw[At,A6];omega
 unfold cU
 generalize A9 (fun b:UInt8=>(b.toNat:Int)) (key.take 16)=v at l0 ⊢
 have e1:∀ v,vM R L v ((19:Nat):Int)=vL R L v ((4:Nat):Int):=fun v=>by
  have hq:vM R L v ((19:Nat):Int)=_:=round (by kernel_rfl) (AC5 R L v ((19:Nat):Int))
  rw[hq];rfl
 have e2:∀ v,vL R L v ((16:Nat):Int)=some (A9 (fun n:Int=>Ax (Aq n)) v,()):=fun v=>by
  have hq:vL R L v ((16:Nat):Int)=_:=round (by kernel_rfl) (AD9 R L v ((16:Nat):Int))
  rw[hq];rfl
 show vM R L v ((3:Nat):Int)=_
 rw[sc0 v l0 3 (by decide),sc0 _ (by simp only[nV];exact l0) 7 (by decide),sc0 _ (by simp only[nV];exact l0) 11 (by decide),sc0 _ (by simp only[nV];exact l0) 15 (by decide),e1,
  sc1 _ (by simp only[nV];exact l0) 4 (by decide),sc1 _ (by simp only[nV];exact l0) 8 (by decide),sc1 _ (by simp only[nV];exact l0) 12 (by decide),e2]
 rfl
def mR (t:List UInt8) (i:Nat):List UInt8:=(t.take (min (i+16) t.length)).drop i++[1]
theorem A5O {t:List UInt8} {i:Nat} (h:i < t.length):2≤(mR t i).length∧(mR t i).length≤17:=by
 unfold mR
 rw[Ae,A1,A6]
 simp only[Ad,Af]
 omega
theorem A5T (t:List UInt8) (h:t.length≤16):leV (t++[1]) < 680564733841876926926749214863536422912:=by
 rw[AA0]
 have h1:=A2l t
 have h2:256 ^ t.length≤256 ^ 16:=AB (by decide) h
 have h3:(256:Nat) ^ 16=340282366920938463463374607431768211456:=by decide
 have h4:leV [1]=1:=by decide
 rw[h4]
 omega
theorem A1b {t:List UInt8} {i:Nat} (h:i < t.length):leV (mR t i) < 680564733841876926926749214863536422912:=A5T _ (by
 rw[A1,A6];omega)
theorem A9U (a b:Nat):As8 (a:Int) (b:Int)=((min a b:Nat):Int):=by
 unfold As8
 by_cases h:(b:Int) < (a:Int)
 ·rw[Ai h];simp only[Ah];rw[Nat.min_eq_right (by omega)]
 ·rw[Ak h];simp only[Aj];rw[Au (by omega)]
theorem Aj3 {a b:Nat} (h:a≤b):B7 a b=true:=by rw[Bh];exact h
theorem A3N (v0 v1:List UInt8) (v5 v6:List Int) (v7:Int):∀ (n:Nat) (b:List UInt8),b.length+n=17→qC R L v0 v1 v5 v6 v7 b=(nE R (b++Aa n 0)).bind fun r0=>uM R L v0 v1 v5 v6 v7 r0.1 0
 | 0,b,h=>by
  have hq:qC R L v0 v1 v5 v6 v7 b=_:=round (by kernel_rfl) (AT0 R L v0 v1 v5 v6 v7 b)
  rw[hq,show decide ((b.length:Int) < 17)=false from Ak (by omega),AV,AE]
  rfl
 | n+1,b,h=>by
  have hq:qC R L v0 v1 v5 v6 v7 b=_:=round (by kernel_rfl) (AT0 R L v0 v1 v5 v6 v7 b)
  rw[hq,show decide ((b.length:Int) < 17)=true from Ai (by omega),wC (by simp only[Ad,Af];omega)]
  simp only[Ah]
  rw[A3N v0 v1 v5 v6 v7 n (b++[0]) (by rw[Ae];simp only[Ad,Af];omega),Az,AU]
  rfl
theorem A8W (key t:List UInt8) (hk:key.length=32) (hl:t.length≤4294967296) (r:Nat) (hr:r < 1361129467683753853853498429727072845824):
  ∀ (n i:Nat) (h g:List Nat),t.length - i≤n→Can h→Can g→vl h % PP=vl g % PP→i≤t.length+16 →
   ∃ out,lF R L key t (cl h) (cl (L5 r)) (i:Int)=some (out,())∧tF R L key t (cl (L5 r)) (cl g) (i:Int)=some (out,())∧out.length=16:=by
 have hrv:vl (L5 r)=r:=A8y hr
 have hend:∀ (i:Nat) (h g:List Nat),t.length≤i→Can h→Can g→vl h % PP=vl g % PP→∃ out,lF R L key t (cl h) (cl (L5 r)) (i:Int)=some (out,())∧tF R L key t (cl (L5 r)) (cl g) (i:Int)=some (out,())∧out.length=16:=by
  intro i h g hi hh hg he
  have hq:lF R L key t (cl h) (cl (L5 r)) (i:Int)=_:=round (by kernel_rfl) (At7 R L key t (cl h) (cl (L5 r)) (i:Int))
  have hq2:tF R L key t (cl (L5 r)) (cl g) (i:Int)=_:=round (by kernel_rfl) (AS6 R L key t (cl (L5 r)) (cl g) (i:Int))
  refine⟨BN6 (if PP≤vl h then vl h - PP else vl h) (key.drop 16),?_,?_,?_⟩
  ·rw[hq,show decide ((i:Int) < (t.length:Nat))=false from Ak (by omega),A1E h hh,A80 hh]
   simp only[Aj,Ac]
   rw[show Aq 16=16 from rfl,Aj3 (Ao _),Aj3 (show 16≤key.length by omega),AN,A5c _ _ (by rw[A1];omega)]
   rfl
  ·rw[hq2,show decide ((i:Int) < (t.length:Nat))=false from Ak (by omega),Ax8 g hg.l (fun z hz=>Av (hg.b z hz) (by decide)),A9A hg]
   simp only[Aj,Ac]
   rw[A8P g hg,A80 hg,BN3 (BK7 hh) (BK7 hg) he]
   simp only[Ac]
   exact A4N _ key hk
  ·have inv:∀ (m j:Nat) (s:List Nat × Nat) (v:Nat) (k:List UInt8),s.1.length=j→(xO (stG v k) m j s).1.length=j+m:=by
    intro m
    induction m with
    | zero=>intro j s v k hs;exact hs
    | succ m ih=>
     intro j s v k hs
     show (xO (stG v k) m (j+1) (stG v k j s)).1.length=_
     rw[ih (j+1) _ v k (by simp[stG,hs])];omega
   unfold BN6
   rw[At,inv 16 0 _ _ _ rfl]
 intro n
 induction n with
 | zero=>intro i h g hn hh hg he hi;exact hend i h g (by omega) hh hg he
 | succ n ih=>
  intro i h g hn hh hg he hi
  rcases Nat.lt_or_ge i t.length with hlt|hge
  ·have hq:lF R L key t (cl h) (cl (L5 r)) (i:Int)=_:=round (by kernel_rfl) (At7 R L key t (cl h) (cl (L5 r)) (i:Int))
   have hq2:tF R L key t (cl (L5 r)) (cl g) (i:Int)=_:=round (by kernel_rfl) (AS6 R L key t (cl (L5 r)) (cl g) (i:Int))
   have e16:Ab .i64 ((i:Int)+16)=((i+16:Nat):Int):=by rw[show (16:Int)=((16:Nat):Int) from rfl,wT (by simp only[uV];omega)]
   have hm:=A1b hlt
   obtain⟨c1,c2⟩:=A5O hlt
   have hm130:leV (mR t i) < 1361129467683753853853498429727072845824:=by omega
   have hlv:vl (L5 (leV (mR t i)))=leV (mR t i):=A8y hm130
   have hcut:((t.take (min (i+16) t.length)).drop i).length≤16:=by rw[A1,A6];omega
   have hA:=A6j hh.b (AV0 (leV (mR t i)))
   have hB:=A6j hg.b (AV0 (leV (mR t i)))
   have lift:∀ {z:List Nat},Bd 134217728 z→Bd 288230376151711744 z:=fun hz y hy=>Av (hz y hy) (by decide)
   obtain⟨k1,k2,_⟩:=Ay9 (x:=ADD h (L5 (leV (mR t i)))) rfl (lift hA)
   have kB:Bd 134217728 (CAR (ADD h (L5 (leV (mR t i))))):=fun y hy=>Av (k1.b y hy) (by decide)
   obtain⟨m1,m2,_⟩:=Ay9 (x:=TIM (CAR (ADD h (L5 (leV (mR t i))))) (L5 r)) rfl (A2b kB (AV0 r))
   obtain⟨s1,s2,_⟩:=Ay9 (x:=TIM (ADD g (L5 (leV (mR t i)))) (L5 r)) rfl (A2b hB (AV0 r))
   have hmod:vl (CAR (TIM (CAR (ADD h (L5 (leV (mR t i))))) (L5 r))) % PP=vl (CAR (TIM (ADD g (L5 (leV (mR t i)))) (L5 r))) % PP:=by
    rw[m2,s2,A9K,A9K,hrv,Nat.mul_mod,k2,A9W,A9W,hlv,Nat.add_mod (vl h),he,← Nat.add_mod,← Nat.mul_mod]
   obtain⟨out,o1,o2,o3⟩:=ih (i+16) _ _ (by omega) m1 s1 hmod (by omega)
   refine⟨out,?_,?_,o3⟩
   ·rw[hq,show decide ((i:Int) < (t.length:Nat))=true from Ai (by omega),e16,A9U]
    simp only[nn,tn,Ah]
    rw[Aj3 (show min (i+16) t.length≤t.length from BA _ _),Aj3 (show i≤min (i+16) t.length by omega),wC (by simp only[Ad,Af];omega)]
    simp only[Ah]
    show (lD R (mR t i)).bind _=_
    rw[Aa1 _ c2 hm130]
    simp only[Ac]
    rw[A8N _ _ hh.l hh.b (AV0 _)]
    simp only[Ac]
    rw[A7W _ _ k1.l kB (AV0 r)]
    exact o1
   ·rw[hq2,show decide ((i:Int) < (t.length:Nat))=true from Ai (by omega),e16,A9U,Nat.min_comm]
    simp only[nn,tn,Ah]
    rw[Aj3 (show min (i+16) t.length≤t.length from BA _ _),Aj3 (show i≤min (i+16) t.length by omega),wC (by simp only[Ad,Af];omega)]
    simp only[Ah]
    show qC R L key t (cl (L5 r)) (cl g) (i:Int) (mR t i)=_
    have hz:leV (mR t i++Aa (17 - (mR t i).length) 0)=leV (mR t i):=by rw[AA0,A0r];simp
    have h17:(mR t i++Aa (17 - (mR t i).length) 0).length=17:=by rw[Ae,An];omega
    have hb16:bt (mR t i++Aa (17 - (mR t i).length) 0) 16 < 4:=by
     rw[← Am5,hz]
     have:(256:Nat) ^ 16=340282366920938463463374607431768211456:=by decide
     rw[this]
     omega
    rw[A3N key t (cl (L5 r)) (cl g) (i:Int) (17 - (mR t i).length) (mR t i) (by omega),A0p _ h17 hb16,hz]
    simp only[Ac]
    rw[A8l g (L5 (leV (mR t i))) hg.l hg.b (AV0 _),A66 _ _ rfl hB (AV0 r)]
    simp only[Ac]
    rw[e16]
    exact o2
  ·exact hend i h g hge hh hg he
theorem BR9:Can (Aa 5 0):=⟨rfl,Bd.rep (by decide)⟩
theorem A8I (key t:List UInt8) (hk:key.length=32) (hl:t.length≤4294967296):∃ out,Ac2 R key t=some (out,())∧iF R key t=some (out,())∧out.length=16:=by
 have hq:Ac2 R key t=_:=call (A99 R L key t)
 have hq2:iF R key t=_:=call (A3e R L key t)
 have hcl:=A34 (key:=key) (by omega)
 have hr:leV (cU key) < 1361129467683753853853498429727072845824:=by
  have:=A2l (cU key)
  rw[hcl] at this
  exact Av this (by decide)
 obtain⟨out,h1,h2,h3⟩:=A8W key t hk hl (leV (cU key)) hr t.length 0 (Aa 5 0) (Aa 5 0) (by omega) BR9 BR9 rfl (by omega)
 refine⟨out,?_,?_,h3⟩
 ·rw[hq,A0z key (by omega)]
  simp only[Ac]
  rw[Aa1 _ (by omega) hr]
  exact h1
 ·rw[hq2,A5I key (by omega)]
  simp only[Ac]
  have hz:leV (cU key++[0])=leV (cU key):=by rw[AA0];simp[leV]
  have hb:bt (cU key++[0]) 16 < 4:=by
   unfold bt
   rw[Ag,AI (by omega),hcl]
   decide
  rw[wC (by rw[hcl];decide),A0p _ (by rw[Ae,hcl];rfl) hb,hz]
  exact h2
end Go.Rf.S

end
section
namespace Go.Rf.S
set_option maxRecDepth 100000
theorem AF1 (l:List Nat):(ub l).length=l.length:=At _
theorem AJ5 (v:Nat):(ub (lit v 8)).length=8:=by rw[AF1,lJ v 8 (by decide)]
def A9H (t:List UInt8):List UInt8:=t++ub (Aa ((16 - t.length % 16) % 16) 0)
theorem Am2 (t:List UInt8):(A9H t).length=t.length+(16 - t.length % 16) % 16:=by
 unfold A9H;rw[Ae,AF1,An]
theorem A3E (t:List UInt8) (ht:t.length≤549755813888):fV R t=some (A9H t,()):=by
 have hq:fV R t=_:=call (A4p R L t)
 have e1:AA (t.length:Int) 16=((t.length % 16:Nat):Int):=rfl
 have e2:Ab .i64 (16 - ((t.length % 16:Nat):Int))=((16 - t.length % 16:Nat):Int):=by rw[yI (by omega) (by omega)];omega
 have e3:AA ((16 - t.length % 16:Nat):Int) 16=(((16 - t.length % 16) % 16:Nat):Int):=rfl
 rw[hq,e1,e2,e3,Av7 _ (by omega)]
 simp (disch:=omega) only[st,AF1,An]
 rfl
theorem BH4:∀ (n:Nat) (t:List UInt8),(t.length+n) % 16=0→n < 16→t.length≤549755813888→nP R L t=some (t++ub (Aa n 0),())
 | n,t,h,hn,ht=>by
  have hq:nP R L t=_:=round (by kernel_rfl) (Ax6 R L t)
  have e1:AA (t.length:Int) 16=((t.length % 16:Nat):Int):=rfl
  rw[hq,e1]
  cases n with
  | zero=>
   simp (disch:=omega) only[st,Al]
   rw[show ub (Aa 0 0)=[] from rfl,AE]
  | succ n=>
   simp (disch:=omega) only[st,A8]
   rw[BH4 n (t++[0]) (by rw[Ae];simp only[Ad,Af];omega) (by omega) (by rw[Ae];simp only[Ad,Af];omega),Az]
   rfl
theorem A29 (t:List UInt8) (ht:t.length≤549755813888):eM R t=some (A9H t,()):=
 AQ (call (A4m R L t):eM R t=_) (BH4 _ t (by omega) (by omega) ht)
theorem A1m (v:Nat):nI R (v:Int)=some (ub (lit v 8),()):=by
 have hq:nI R (v:Int)=_:=call (A0X R L (v:Int))
 refine hq.trans (yE (fun (o:List Nat) i=>uT R L (v:Int) (cl o) i) (stL v) (fun i o=>o.length=i) 8 (fun o=>some (ub o,()))
  (fun o _=>?_) (fun o i hi ho=>⟨?_,by unfold stL;rw[Ae,ho];rfl⟩) [] rfl).1
 ·have hq:uT R L (v:Int) (cl o) (8:Nat)=_:=round (by kernel_rfl) (AE3 R L (v:Int) (cl o) (8:Nat))
  show uT R L (v:Int) (cl o) (8:Nat)=_
  rw[hq,AU6];rfl
 ·have hq:uT R L (v:Int) (cl o) (i:Nat)=_:=round (by kernel_rfl) (AE3 R L (v:Int) (cl o) (i:Nat))
  show uT R L (v:Int) (cl o) (i:Nat)=_
  have e8:Ab .i64 ((8:Int) * (i:Int))=((8 * i:Nat):Int):=by rw[yI (by omega) (by omega)];omega
  rw[hq,e8,tn,show A0 (8 * i) (Am .i64)=8 * i from Au (by simp only[Am];omega),mE,uY,zB (by omega)]
  simp (disch:=omega) only[st,dT,dF,oI]
  rw[show [((v / 2 ^ (8 * i) % 256:Nat):Int)]=cl [v / 2 ^ (8 * i) % 256] from rfl,AJ1]
  rfl
noncomputable def BF7 (key t:List UInt8):List UInt8:=((iF R key t).getD ([],())).1
theorem BQ4 {key t:List UInt8} (hk:key.length=32) (hl:t.length≤4294967296):Ac2 R key t=some (BF7 key t,())∧iF R key t=some (BF7 key t,())∧(BF7 key t).length=16:=by
 obtain⟨out,h1,h2,h3⟩:=A8I key t hk hl
 have e:BF7 key t=out:=by unfold BF7;rw[h2];rfl
 rw[e];exact⟨h1,h2,h3⟩
noncomputable def btF (key nonce ad t:List UInt8):List UInt8:=BF7 ((chB key nonce 0).take 32) (((A9H ad++A9H t)++ub (lit ad.length 8))++ub (lit t.length 8))
theorem A8g {key nonce ad t:List UInt8} (hk:key.length=32) (hn:nonce.length=12) (ha:ad.length≤1073741824) (hl:t.length≤1073741824):
  AA6 R key nonce ad t=some (btF key nonce ad t,())∧AB7 R key nonce ad t=some (btF key nonce ad t,())∧(btF key nonce ad t).length=16:=by
 have hB:(chB key nonce 0).length=64:=AG9 hk hn (by decide)
 obtain⟨h1,h2,h3⟩:=BQ4 (key:=(chB key nonce 0).take 32) (t:=((A9H ad++A9H t)++ub (lit ad.length 8))++ub (lit t.length 8)) (by rw[A6];omega)
  (by simp only[Ae,Am2,AJ5];omega)
 have e1:eA R key nonce 0=some (chB key nonce 0,()):=(Am9 key nonce hk hn 0 (by decide)).1
 have e2:rT R key nonce 0=some (chB key nonce 0,()):=Ak9 key nonce hk hn 0 (by decide)
 have l8:∀ v:Nat,wI R (v:Int) 8=some (ub (lit v 8),()):=fun v=>cL v 8 (by decide)
 refine⟨?_,?_,h3⟩
 ·rw[show AA6 R key nonce ad t=_ from call (A3w R L key nonce ad t),e1,A3E ad (by omega),A3E t (by omega),l8,l8]
  simp (disch:=omega) only[st,hB,Am2,AJ5,show (32:Int).toNat=32 from rfl,Ap,h1]
  rfl
 ·rw[show AB7 R key nonce ad t=_ from call (A4R R L key nonce ad t),e2,A29 ad (by omega),A29 t (by omega),A1m,A1m]
  simp (disch:=omega) only[st,hB,Am2,AJ5,show (32:Int).toNat=32 from rfl,Ap,h2]
  rfl
theorem Az3 (key nonce:List UInt8) (hk:key.length=32) (hn:nonce.length=12) (count:Nat) (t:List UInt8) (ht:t.length≤1073741824) (hc:count≤1024):∀ k,64 * k≤t.length+63 →
  (A49 A3r (chB key nonce) count t k).length=min (64 * k) t.length∧∀ i,i < min (64 * k) t.length→bt (A49 A3r (chB key nonce) count t k) i=bt t i ^^^ bt (chB key nonce (count+i / 64)) (i % 64)
 | 0,_=>⟨by simp[A49],fun i hi=>by omega⟩
 | k+1,hk'=>by
  obtain⟨h1,h2⟩:=Az3 key nonce hk hn count t ht hc k (by omega)
  have hB:(chB key nonce (count+k)).length=64:=AG9 hk hn (by omega)
  have hl:((t.drop (64 * k)).take 64).length=min 64 (t.length - 64 * k):=by rw[A6,A1]
  have hx:(A3r ((t.drop (64 * k)).take 64) (chB key nonce (count+k))).length=min 64 (t.length - 64 * k):=by rw[AL6 _ _ (by omega),hl]
  refine⟨by rw[A49,Ae,h1,hx];omega,fun i hi=>?_⟩
  rw[A49]
  by_cases hi64:i < min (64 * k) t.length
  ·rw[AO3 (by omega),h2 i hi64]
  ·have hb:bt ((t.drop (64 * k)).take 64) (i - min (64 * k) t.length)=bt t i:=by
    unfold bt
    rw[fQ _ (by omega),Ag,Ag,AL,show 64 * k+(i - min (64 * k) t.length)=i by omega]
   rw[AN6 (by omega),h1,Ar6 _ _ _ (by omega) (by omega),hb,show i / 64=k by omega,show i % 64=i - min (64 * k) t.length by omega]
theorem A8p (key nonce:List UInt8) (hk:key.length=32) (hn:nonce.length=12) (count:Nat) (t:List UInt8) (ht:t.length≤1073741824) (hc:count≤1024):
  A49 A3r (chB key nonce) count t ((t.length+63) / 64)=chX key nonce (t.length / 64+1) count t:=by
 obtain⟨a1,a2⟩:=Az3 key nonce hk hn count t ht hc ((t.length+63) / 64) (by omega)
 obtain⟨b1,b2⟩:=AV6 key nonce hk hn (t.length / 64+1) count t (by omega) (by omega)
 refine A5J (by rw[a1,b1];omega) fun i hi=>?_
 rw[a1] at hi
 rw[a2 i hi,b2 i (by omega)]
theorem A8m (key nonce:List UInt8) (hk:key.length=32) (hn:nonce.length=12) (count:Nat) (t:List UInt8) (ht:t.length≤1048576) (hc:count≤1024):
  AP2 R key nonce (count:Int) t=some (chX key nonce (t.length / 64+1) count t,()):=by
 refine (BB0 (f:=273) rfl _).trans (A9L (E:=EE) (f:=273) (x:=(chX key nonce (t.length / 64+1) count t,())) ?_ ?_)
 ·rfl
 ·rw[← A8p key nonce hk hn count t (by omega) hc]
  exact A5A (E:=EE) rfl A3r (chB key nonce) key nonce t count ht (by omega)
   (fun c hc=>A5j _ _ _ (Am9 key nonce hk hn c (by omega)).1)
   (fun a c hc ha=>A5j _ _ _ (BQ1 a (chB key nonce c) (by rw[AG9 hk hn (by omega)];exact ha) (by rw[AG9 hk hn (by omega)];decide)))
   (fun a c hc ha=>by rw[AL6 _ _ (by rw[AG9 hk hn (by omega)];exact ha)];exact ha)
theorem A31 (l:List Nat) (hl:l.length≤262144):aA R (cl l)=some ((cl l).flatMap itx,()):=by
 have hlen:∀ l:List Nat,((cl l).flatMap itx).length=4 * l.length:=fun l=>by
  induction l with
  | nil=>rfl
  | cons a l ih=>
   show ((itx (a:Int))++(cl l).flatMap itx).length=_
   rw[Ae,ih,show (itx (a:Int)).length=4 from by unfold itx;rw[AF1,lJ _ _ (by decide)]]
   simp only[Ad];omega
 refine (BB0 (f:=275) rfl _).trans (A9L (E:=EE) (f:=275) (x:=((cl l).flatMap itx,())) rfl ?_)
 refine A1Q (E:=EE) (keep:=(A1r BG8 139).keep) (mv:=(A1r BG8 139).mv) rfl itx (cl l) (by rw[hlen];omega) (by rw[oI];omega) fun x hx=>?_
 obtain⟨n,_,rfl⟩:=List.mem_map.1 hx
 exact A5j _ _ _ (cL n 4 (by decide))
end Go.Rf.S

end
section
namespace Go.Rf.S
set_option maxRecDepth 100000
def BD1 (kind place epoch:Nat):List UInt8:=((ub (lit kind 1)++ub (lit place 2))++ub (lit 0 1))++ub (lit epoch 8)
theorem A7q (a b c:Nat):(BD1 a b c).length=12:=by
 unfold BD1
 simp only[Ae,AF1,lJ _ _ (show 8≤8 by decide),lJ _ _ (show 1≤8 by decide),lJ _ _ (show 2≤8 by decide)]
theorem A5v (a b c:Nat):cD R (a:Int) (b:Int) (c:Int)=some (BD1 a b c,())∧fF R (a:Int) (b:Int) (c:Int)=some (BD1 a b c,()):=by
 have e1:∀ v:Nat,wI R (v:Int) 1=some (ub (lit v 1),()):=fun v=>cL v 1 (by decide)
 have e2:∀ v:Nat,wI R (v:Int) 2=some (ub (lit v 2),()):=fun v=>cL v 2 (by decide)
 have e8:∀ v:Nat,wI R (v:Int) 8=some (ub (lit v 8),()):=fun v=>cL v 8 (by decide)
 have e0:wI R 0 1=some (ub (lit 0 1),()):=e1 0
 have l1:∀ v,(ub (lit v 1)).length=1:=fun v=>by rw[AF1,lJ _ _ (by decide)]
 have l2:∀ v,(ub (lit v 2)).length=2:=fun v=>by rw[AF1,lJ _ _ (by decide)]
 constructor
 ·rw[show cD R (a:Int) (b:Int) (c:Int)=_ from call (A1s R L (a:Int) (b:Int) (c:Int)),e1,e2,e0,e8]
  simp (disch:=omega) only[st,l1,l2,AJ5]
  rfl
 ·have hm:A0 (8:Int).toNat (Am .i64)=8:=rfl
  rw[show fF R (a:Int) (b:Int) (c:Int)=_ from call (A0t R L (a:Int) (b:Int) (c:Int)),A1m,hm,mE,uY,uY,uY]
  rw[show [((a % 256:Nat):Int),((b % 256:Nat):Int),((b / 2 ^ 8 % 256:Nat):Int),0]=cl [a % 256,b % 256,b / 2 ^ 8 % 256,0] from rfl,AU6]
  simp (disch:=omega) only[st,AJ5,AF1,Ad,Af]
  have:ub [a % 256,b % 256,b / 2 ^ 8 % 256,0]=(ub (lit a 1)++ub (lit b 2))++ub (lit 0 1):=by
   have f1:lit a 1=[a / 2 ^ 0 % 256]:=rfl
   have f2:lit b 2=[b / 2 ^ 0 % 256,b / 2 ^ 8 % 256]:=rfl
   have f3:lit 0 1=[0]:=rfl
   rw[f1,f2,f3,AJ,AP,AP];rfl
  rw[this];rfl
def blk:List UInt8:=[98,108,111,99,107]
noncomputable def A5V (key nonce ad t:List UInt8):List UInt8:=chX key nonce (t.length / 64+1) 1 t++btF key nonce ad (chX key nonce (t.length / 64+1) 1 t)
theorem BC9 {key nonce:List UInt8} (hk:key.length=32) (hn:nonce.length=12) (t:List UInt8) (ht:t.length≤1048576):(chX key nonce (t.length / 64+1) 1 t).length=t.length:=
 (AV6 key nonce hk hn (t.length / 64+1) 1 t (by omega) (by omega)).1
theorem BL0 {key nonce ad t:List UInt8} (hk:key.length=32) (hn:nonce.length=12) (ha:ad.length≤1048576) (ht:t.length≤1048576):
  AJ2 R key nonce ad t=some (A5V key nonce ad t,())∧hZ R key nonce ad t=some (A5V key nonce ad t,())∧(A5V key nonce ad t).length=t.length+16:=by
 have hl:=BC9 hk hn t ht
 obtain⟨h1,h2,h3⟩:=A8g (ad:=ad) (t:=chX key nonce (t.length / 64+1) 1 t) hk hn (by omega) (by omega)
 have e1:AP2 R key nonce 1 t=some (chX key nonce (t.length / 64+1) 1 t,()):=A8m key nonce hk hn 1 t ht (by decide)
 have e2:fO R key nonce 1 t=some (chX key nonce (t.length / 64+1) 1 t,()):=A53 key nonce hk hn 1 t (by omega) (by decide)
 refine⟨?_,?_,by unfold A5V;rw[Ae,hl,h3]⟩
 ·rw[show AJ2 R key nonce ad t=_ from call (A8c R L key nonce ad t),e1]
  simp (disch:=omega) only[st,h1,hl,h3]
  rfl
 ·rw[show hZ R key nonce ad t=_ from call (A13 R L key nonce ad t),e2]
  simp (disch:=omega) only[st,h2,hl,h3]
  rfl
noncomputable def A1y (key:List UInt8) (a b c:Nat) (t:List UInt8):List UInt8:=A5V key (BD1 a b c) blk t
theorem An4 {key t:List UInt8} (hk:key.length=32) (ht:t.length≤1048576) (a b c:Nat):
  mX R key (a:Int) (b:Int) (c:Int) t=some (A1y key a b c t,())∧oT R key (a:Int) (b:Int) (c:Int) t=some (A1y key a b c t,())∧(A1y key a b c t).length=t.length+16:=by
 obtain⟨h1,h2,h3⟩:=BL0 (ad:=blk) (t:=t) hk (A7q a b c) (by decide) ht
 refine⟨?_,?_,h3⟩
 ·rw[show mX R key (a:Int) (b:Int) (c:Int) t=_ from call (A3n R L key (a:Int) (b:Int) (c:Int) t),(A5v a b c).1]
  show (AJ2 R key (BD1 a b c) blk t).bind _=_
  rw[h1];rfl
 ·rw[show oT R key (a:Int) (b:Int) (c:Int) t=_ from call (A10 R L key (a:Int) (b:Int) (c:Int) t),(A5v a b c).2]
  show (hZ R key (BD1 a b c) blk t).bind _=_
  rw[h2];rfl
def A5l (a b:List UInt8):List UInt8:=dig (([1]++a)++b)
def A3t (at_:Nat) (t:List UInt8):List UInt8:=dig (ub [0,at_ % 256]++t)
theorem A9V {a b:List UInt8} (ha:a.length≤1048576) (hb:b.length≤1048576):AV4 R a b=some (A5l a b,())∧dE R a b=some (A5l a b,()):=by
 have hl:(([1]++a)++b).length≤549755813888:=by simp only[Ae,Ad,Af];omega
 constructor
 ·rw[show AV4 R a b=_ from call (A8H R L a b),Am6 _ hl]
  simp (disch:=omega) only[st];rfl
 ·rw[show dE R a b=_ from call (A1o R L a b),A1z _ hl]
  simp (disch:=omega) only[st];rfl
theorem A9i (i:Nat) {t:List UInt8} (ht:t.length≤1048576):lS R (i:Int) t=some (A3t i t,())∧eR R (i:Int) t=some (A3t i t,()):=by
 have e:A9 (fun n:Int=>Ax (Aq n)) [(0:Int),Ab .u8 (i:Int)]=ub [0,i % 256]:=by
  rw[uY,show [(0:Int),((i % 256:Nat):Int)]=cl [0,i % 256] from rfl,AU6]
 have hl:(ub [0,i % 256]++t).length≤549755813888:=by rw[Ae,AF1];simp only[Ad,Af];omega
 have h2:(ub [0,i % 256]).length=2:=rfl
 constructor
 ·rw[show lS R (i:Int) t=_ from call (Ag5 R L (i:Int) t),e,Am6 _ hl]
  simp (disch:=omega) only[st,h2];rfl
 ·rw[show eR R (i:Int) t=_ from call (A2P R L (i:Int) t),e,A1z _ hl]
  simp (disch:=omega) only[st,h2];rfl
def wU:List (List UInt8)→List (List UInt8)
 | a :: b :: r=>A5l a b :: wU r
 | _=>[]
def Sh (l:List (List UInt8)):Prop:=∀ s ∈ l,s.length≤1048576
theorem eP:∀ l,Sh (wU l)
 | []=>fun s h=>by cases h
 | [_]=>fun s h=>by cases h
 | a :: b :: r=>fun s h=>by
  rcases AO.1 h with rfl|h
  ·unfold A5l;rw[Am4];decide
  ·exact eP r s h
theorem aO:∀ l:List (List UInt8),(wU l).length=l.length / 2
 | []=>rfl
 | [x]=>by show 0=1 / 2;rfl
 | a :: b :: r=>by
  show (wU r).length+1=(r.length+2) / 2
  rw[aO r];omega
theorem A58 (v3:List (List UInt8)) (v6:List (List (List UInt8))) (hs:Sh v3) (h3:v3.length≤64) (h6:v6.length≤64):∀ (r v7:List (List UInt8)) (j:Nat),j≤v3.length→v3.drop j=r→r.length % 2=0→v7.length+r.length≤128 →
  lE R L v3 v6 v7 (j:Int)=rC R L (v7++wU r) (v6++[v7++wU r])
 | [],v7,j,hj,hr,_,h7=>by
  have hj:v3.length≤j:=Bs.1 hr
  rw[show lE R L v3 v6 v7 (j:Int)=_ from round (by kernel_rfl) (Aj0 R L v3 v6 v7 (j:Int))]
  simp (disch:=omega) only[st,dF]
  rw[show wU []=[] from rfl,AE]
 | [_],v7,j,hj,hr,h,h7=>by simp at h
 | a :: b :: r,v7,j,_,hr,h,h7=>by
  obtain⟨d1,d2,d3,d4⟩:=BJ2 (d:=[]) hr
  have hj:=A9V (hs a (by rw[← d2];exact pZ (by omega))) (hs b (by rw[← d3];exact pZ (by omega)))
  simp only[Ad] at h h7
  rw[show lE R L v3 v6 v7 (j:Int)=_ from round (by kernel_rfl) (Aj0 R L v3 v6 v7 (j:Int)),Aw8 (by omega),zB (by omega)]
  simp (disch:=omega) only[st,dT,d2,d3,hj.1]
  rw[A58 v3 v6 hs h3 h6 r _ (j+2) (by omega) d4 (by omega) (by rw[Ae];simp only[Ad,Af];omega),Az]
  rfl
theorem A55 (v3:List (List UInt8)) (hs:Sh v3) (h3:v3.length≤64):∀ (r v7:List (List UInt8)) (j:Nat),j≤v3.length→v3.drop j=r→r.length % 2=0→v7.length+r.length≤128 →
  rP R L v3 v7 (j:Int)=some (v7++wU r,())
 | [],v7,j,hj,hr,_,h7=>by
  have hj:v3.length≤j:=Bs.1 hr
  rw[show rP R L v3 v7 (j:Int)=_ from round (by kernel_rfl) (AD0 R L v3 v7 (j:Int)),zB (by omega)]
  simp (disch:=omega) only[st,dF]
  rw[show wU []=[] from rfl,AE]
 | [_],v7,j,hj,hr,h,h7=>by simp at h
 | a :: b :: r,v7,j,_,hr,h,h7=>by
  obtain⟨d1,d2,d3,d4⟩:=BJ2 (d:=[]) hr
  have hj:=A9V (hs a (by rw[← d2];exact pZ (by omega))) (hs b (by rw[← d3];exact pZ (by omega)))
  simp only[Ad] at h h7
  rw[show rP R L v3 v7 (j:Int)=_ from round (by kernel_rfl) (AD0 R L v3 v7 (j:Int)),Aw8 (by omega),zB (by omega)]
  simp (disch:=omega) only[st,dT,d2,d3,hj.2]
  rw[A55 v3 hs h3 r _ (j+2) (by omega) d4 (by omega) (by rw[Ae];simp only[Ad,Af];omega),Az]
  rfl
def tB (l:List (List UInt8)):List (List UInt8):=l.mapIdx A3t
theorem A05 (l:List (List UInt8)):(tB l).length=l.length:=A'
theorem Ak1 (l:List (List UInt8)):Sh (tB l):=fun s h=>by
 obtain⟨i,hi,rfl⟩:=Bn.1 h
 unfold A3t;rw[Am4];decide
def A4z (l:List (List UInt8)):List UInt8:=(wU (wU (wU (wU (tB l))))).getD 0 []
theorem A7k {v3:List (List UInt8)} {v6:List (List (List UInt8))} (hs:Sh v3) (h3:v3.length≤64) (h1:1 < v3.length) (h2:v3.length % 2=0) (h6:v6.length≤64):
  rC R L v3 v6=rC R L (wU v3) (v6++[wU v3]):=by
 rw[show rC R L v3 v6=_ from round (by kernel_rfl) (Ag6 R L v3 v6)]
 simp (disch:=omega) only[st,dT]
 exact A58 v3 v6 hs h3 h6 v3 [] 0 (Ar _) rfl h2 (by simp only[Af];omega)
theorem A78 {v3:List (List UInt8)} (hs:Sh v3) (h3:v3.length≤64) (h1:1 < v3.length) (h2:v3.length % 2=0):rA R L v3=rA R L (wU v3):=by
 have e:gJ R v3=some (wU v3,()):=AQ (call (Aw3 R L v3):gJ R v3=_) (A55 v3 hs h3 v3 [] 0 (Ar _) rfl h2 (by simp only[Af];omega))
 rw[show rA R L v3=_ from round (by kernel_rfl) (AM8 R L v3),e]
 simp (disch:=omega) only[st,dT]
theorem A84 {l:List (List UInt8)} (hl:l.length=16) (hs:Sh l):AW4 R l=some (A4z l,())∧eW R l=some (A4z l,()):=by
 have a0:=A05 l
 have a1:=aO (tB l)
 have a2:=aO (wU (tB l))
 have a3:=aO (wU (wU (tB l)))
 have a4:=aO (wU (wU (wU (tB l))))
 constructor
 ·have e0:nB R L [] l (l.length:Int) 0=rC R L (tB l) [tB l]:=
   Aa5 (fun o i=>nB R L o l (l.length:Int) i) l [] A3t (fun o=>rC R L o [o]) []
    (fun o ho=>by
     rw[show nB R L o l (l.length:Int) (l.length:Nat)=_ from round (by kernel_rfl) (Ai7 R L o l (l.length:Int) (l.length:Nat))]
     simp (disch:=omega) only[st,dF])
    (fun o i hi ho=>by
     rw[show nB R L o l (l.length:Int) (i:Nat)=_ from round (by kernel_rfl) (Ai7 R L o l (l.length:Int) (i:Nat)),zB (by omega)]
     simp only[Af] at ho
     simp (disch:=omega) only[st,dT,(A9i i (hs _ (pZ hi))).1])
  have e:AW9 R l=some ([tB l,wU (tB l),wU (wU (tB l)),wU (wU (wU (tB l))),wU (wU (wU (wU (tB l))))],()):=by
   rw[show AW9 R l=_ from call (A7n R L l),e0,A7k (Ak1 l) (by omega) (by omega) (by omega) (by simp),A7k (eP _) (by omega) (by omega) (by omega) (by simp),A7k (eP _) (by omega) (by omega) (by omega) (by simp),A7k (eP _) (by omega) (by omega) (by omega) (by simp)]
   generalize hV:([tB l]++[wU (tB l)]++[wU (wU (tB l))]++[wU (wU (wU (tB l)))]++[wU (wU (wU (wU (tB l))))])=V
   rw[show rC R L (wU (wU (wU (wU (tB l))))) V=_ from round (by kernel_rfl) (Ag6 R L _ _)]
   simp (disch:=omega) only[st,dF]
   rw[← hV];rfl
  rw[show AW4 R l=_ from call (A8D R L l),e]
  show cond (BD 4 5) (cond (BD 0 (wU (wU (wU (wU (tB l))))).length) (some (A4z l,())) none) none=_
  rw[zT (show 0 < (wU (wU (wU (wU (tB l))))).length by omega)];rfl
 ·have e:jD R l=some (tB l,()):=AQ (call (An1 R L l):jD R l=_)
   (Aa5 (fun o i=>sL R L l o i) l [] A3t (fun o=>some (o,())) []
    (fun o ho=>by
     rw[show sL R L l o (l.length:Nat)=_ from round (by kernel_rfl) (aE R L l o (l.length:Nat))]
     simp (disch:=omega) only[st,dF])
    (fun o i hi ho=>by
     rw[show sL R L l o (i:Nat)=_ from round (by kernel_rfl) (aE R L l o (i:Nat)),zB (by omega)]
     simp only[Af] at ho
     simp (disch:=omega) only[st,dT,(A9i i (hs _ (pZ hi))).2]))
  rw[show eW R l=_ from call (A1f R L l),e]
  simp only[st]
  rw[A78 (Ak1 l) (by omega) (by omega) (by omega),A78 (eP _) (by omega) (by omega) (by omega),A78 (eP _) (by omega) (by omega) (by omega),A78 (eP _) (by omega) (by omega) (by omega)]
  rw[show rA R L (wU (wU (wU (wU (tB l)))))=_ from round (by kernel_rfl) (AM8 R L _)]
  simp (disch:=omega) only[st,dF]
  rfl
end Go.Rf.S

end
section
namespace Go.Rf.S
set_option maxRecDepth 100000
theorem AE4:∀ (n m:Nat) (v2 v3:List UInt8),v3.length+n≤1048576→m < 10 ^ n→m≤4611686018427387904→∃ t,rQ R L m v2 v3=some (t,())
 | 0,m,v2,v3,hl,hm,hb=>by
  have hq:rQ R L m v2 v3=_:=round (by kernel_rfl) (AC8 R L m v2 v3)
  have hm:m=0:=by simpa using hm
  rw[hq,show decide ((0:Int) < (m:Int))=false from Ak (by omega)]
  simp only[Aj]
  rw[wC (by simp only[Ad,Af];omega)]
  exact⟨_,rfl⟩
 | n+1,m,v2,v3,hl,hm,hb=>by
  have hq:rQ R L m v2 v3=_:=round (by kernel_rfl) (AC8 R L m v2 v3)
  by_cases h0:m=0
  ·rw[hq,show decide ((0:Int) < (m:Int))=false from Ak (by omega)]
   simp only[Aj]
   rw[wC (by simp only[Ad,Af];omega)]
   exact⟨_,rfl⟩
  ·rw[hq,show decide ((0:Int) < (m:Int))=true from Ai (by omega),wC (by simp only[At,Ad,Af];omega)]
   simp only[Ah]
   rw[show Bg (m:Int) 10=((m / 10:Nat):Int) from rfl,yI (n:=((m / 10:Nat):Int)) (by omega) (by omega)]
   exact AE4 n (m / 10) v2 _ (by simp only[Ae,At,Ad,Af];omega) (by rw[Nat.pow_succ] at hm;omega) (by omega)
theorem Ay1 (m:Nat) (h:m≤4611686018427387904):∃ t,sP R m=some (t,()):=by
 have hq:sP R m=_:=call (Av6 R L m)
 rw[hq]
 by_cases h0:m=0
 ·rw[show decide ((m:Int)≤(0:Int))=true from Ai (by omega)];exact⟨_,rfl⟩
 ·rw[show decide ((m:Int)≤(0:Int))=false from Ak (by omega)]
  exact AE4 19 m [] [] (by simp) (AZ h (by decide)) h
noncomputable def mt (k:Nat):List UInt8:=((sP R k).getD ([],())).1
theorem AI7 (m:Nat) (h:m≤4611686018427387904):sP R m=some (mt m,()):=by
 obtain⟨t,e⟩:=Ay1 m h
 unfold mt
 rw[e];rfl
abbrev lI:Ty:=(.pair (.int .i64) (.pair (.int .i64) (.pair (.int .i64) (.pair (.int .i64) (.pair .str (.pair .str (.pair .str .unit)))))))
abbrev Ag8:Type:=(Int × (Int × (Int × (Int × (List UInt8 × (List UInt8 × (List UInt8 × Unit)))))))
theorem A1N (x:Ag8) (hx:cnt lI x≤1048576):lR R x x=some (true,()):=by
 have hq:lR R x x=_:=call (Ae9 R L x x)
 have hc:cnt lI x=(0+(0+(0+(0+(x.2.2.2.2.1.length+(x.2.2.2.2.2.1.length+(x.2.2.2.2.2.2.1.length+(0)))))))):=rfl
 rw[hq]
 simp only[uS,hM,eqB,A2,Al,Aj,Ac]
theorem A4B (x:List (List UInt8)) (hx:cnt (.sl .str) x≤1048576):jM R x x=some (true,()):=by
 have hq:jM R x x=_:=call (Ap2 R L x x)
 have hc:cnt (.sl .str) x=x.length+(x.map (cnt .str)).sum:=rfl
 rw[hq]
 simp only[uS,A2,Al,Aj]
 refine AI0 (fun i=>vV R L x x false i) x ?_ (fun i hlt=>?_) _ 0 rfl (Ar _)
 ·have hq:vV R L x x false (x.length:Nat)=_:=round (by kernel_rfl) (aG R L x x false (x.length:Nat))
  show vV R L x x false (x.length:Nat)=_
  rw[hq,AN4 (Ao _)];rfl
 ·have hq:vV R L x x false i=_:=round (by kernel_rfl) (aG R L x x false i)
  show vV R L x x false i=_
  rw[hq,AN5 hlt,nn,tn,zT hlt,zB (i:=i) (by omega)]
  simp only[Ah,uS,hM,A2,Al,Aj]
abbrev bA:Ty:=(.pair (.int .i64) (.pair .str .unit))
abbrev BL2:Type:=(Int × (List UInt8 × Unit))
theorem BO5 (x:BL2) (hx:cnt bA x≤1048576):AV7 R x x=some (true,()):=by
 have hq:AV7 R x x=_:=call (A8e R L x x)
 have hc:cnt bA x=(0+(x.2.1.length+(0))):=rfl
 rw[hq]
 simp only[uS,hM,eqB,A2,Al,Aj,Ac]
theorem BL3 (x:List (BL2)) (hx:cnt (.sl bA) x≤1048576):AM6 R x x=some (true,()):=by
 have hq:AM6 R x x=_:=call (A5r R L x x)
 have hc:cnt (.sl bA) x=x.length+(x.map (cnt bA)).sum:=rfl
 rw[hq]
 simp only[uS,A2,Al,Aj]
 refine AI0 (fun i=>rU R L x x false i) x ?_ (fun i hlt=>?_) _ 0 rfl (Ar _)
 ·have hq:rU R L x x false (x.length:Nat)=_:=round (by kernel_rfl) (Aa0 R L x x false (x.length:Nat))
  show rU R L x x false (x.length:Nat)=_
  rw[hq,AN4 (Ao _)];rfl
 ·have hq:rU R L x x false i=_:=round (by kernel_rfl) (Aa0 R L x x false i)
  show rU R L x x false i=_
  rw[hq,AN5 hlt,nn,tn,zT hlt,zB (i:=i) (by omega)]
  have hm:cnt bA (x.getD i ((0:Int),(([]:List UInt8),())))≤cnt (.sl bA) x:=AQ5 (t:=bA) (x:=x) (d:=((0:Int),(([]:List UInt8),()))) hlt
  simp only[Ah]
  rw[BO5 _ (by omega)]
  simp only[Ac,Al,Aj]
abbrev xN:Ty:=(.pair (.sl .str) (.pair (.sl bA) .unit))
abbrev AL1:Type:=(List (List UInt8) × (List (BL2) × Unit))
theorem Av5 (x:AL1) (hx:cnt xN x≤1048576):kL R x x=some (true,()):=by
 have hq:kL R x x=_:=call (Au8 R L x x)
 have hc:cnt xN x=(cnt (.sl .str) x.1+(cnt (.sl bA) x.2.1+(0))):=rfl
 have e1:=A4B x.1 (by omega)
 have e2:=BL3 x.2.1 (by omega)
 rw[hq]
 simp only[uS,hM,eqB,A2,Al,Aj,Ac,e1,e2]
abbrev uZ:Ty:=(.pair .str (.pair lI (.pair xN (.pair .bool (.pair .bool .unit)))))
abbrev AP6:Type:=(List UInt8 × (Ag8 × (AL1 × (Bool × (Bool × Unit)))))
theorem A8Z (x:AP6) (hx:cnt uZ x≤1048576):eX R x x=some (true,()):=by
 have hq:eX R x x=_:=call (A2X R L x x)
 have hc:cnt uZ x=(x.1.length+(cnt lI x.2.1+(cnt xN x.2.2.1+(0+(0+(0)))))):=rfl
 have e1:=A1N x.2.1 (by omega)
 have e2:=Av5 x.2.2.1 (by omega)
 rw[hq]
 simp only[uS,hM,eqB,A2,Al,Aj,Ac,e1,e2]
abbrev cM:Ty:=(.pair (.int .i64) (.pair (.int .i64) (.pair (.int .i64) .unit)))
abbrev Au5:Type:=(Int × (Int × (Int × Unit)))
theorem BP1 (x:Au5) (hx:cnt cM x≤1048576):AW5 R x x=some (true,()):=by
 have hq:AW5 R x x=_:=call (A8b R L x x)
 have hc:cnt cM x=(0+(0+(0+(0)))):=rfl
 rw[hq]
 simp only[uS,hM,eqB,A2,Al,Aj,Ac]
theorem BI5 (x:List (Au5)) (hx:cnt (.sl cM) x≤1048576):AL9 R x x=some (true,()):=by
 have hq:AL9 R x x=_:=call (A7K R L x x)
 have hc:cnt (.sl cM) x=x.length+(x.map (cnt cM)).sum:=rfl
 rw[hq]
 simp only[uS,A2,Al,Aj]
 refine AI0 (fun i=>rS R L x x false i) x ?_ (fun i hlt=>?_) _ 0 rfl (Ar _)
 ·have hq:rS R L x x false (x.length:Nat)=_:=round (by kernel_rfl) (Ab2 R L x x false (x.length:Nat))
  show rS R L x x false (x.length:Nat)=_
  rw[hq,AN4 (Ao _)];rfl
 ·have hq:rS R L x x false i=_:=round (by kernel_rfl) (Ab2 R L x x false i)
  show rS R L x x false i=_
  rw[hq,AN5 hlt,nn,tn,zT hlt,zB (i:=i) (by omega)]
  have hm:cnt cM (x.getD i ((0:Int),((0:Int),((0:Int),()))))≤cnt (.sl cM) x:=AQ5 (t:=cM) (x:=x) (d:=((0:Int),((0:Int),((0:Int),())))) hlt
  simp only[Ah]
  rw[BP1 _ (by omega)]
  simp only[Ac,Al,Aj]
abbrev xW:Ty:=(.pair (.sl cM) .unit)
abbrev bK:Type:=(List (Au5) × Unit)
theorem BM0 (x:bK) (hx:cnt xW x≤1048576):AK3 R x x=some (true,()):=by
 have hq:AK3 R x x=_:=call (A62 R L x x)
 have hc:cnt xW x=(cnt (.sl cM) x.1+(0)):=rfl
 have e1:=BI5 x.1 (by omega)
 rw[hq]
 simp only[uS,hM,eqB,A2,Al,Aj,Ac,e1]
theorem BA9 (x:List (bK)) (hx:cnt (.sl xW) x≤1048576):aX R x x=some (true,()):=by
 have hq:aX R x x=_:=call (A4L R L x x)
 have hc:cnt (.sl xW) x=x.length+(x.map (cnt xW)).sum:=rfl
 rw[hq]
 simp only[uS,A2,Al,Aj]
 refine AI0 (fun i=>sX R L x x false i) x ?_ (fun i hlt=>?_) _ 0 rfl (Ar _)
 ·have hq:sX R L x x false (x.length:Nat)=_:=round (by kernel_rfl) (AS0 R L x x false (x.length:Nat))
  show sX R L x x false (x.length:Nat)=_
  rw[hq,AN4 (Ao _)];rfl
 ·have hq:sX R L x x false i=_:=round (by kernel_rfl) (AS0 R L x x false i)
  show sX R L x x false i=_
  rw[hq,AN5 hlt,nn,tn,zT hlt,zB (i:=i) (by omega)]
  have hm:cnt xW (x.getD i (([]:List (Au5)),()))≤cnt (.sl xW) x:=AQ5 (t:=xW) (x:=x) (d:=(([]:List (Au5)),())) hlt
  simp only[Ah]
  rw[BM0 _ (by omega)]
  simp only[Ac,Al,Aj]
theorem A9m (x:List (Int)) (hx:cnt (.sl (.int .i64)) x≤1048576):AB9 R x x=some (true,()):=by
 have hq:AB9 R x x=_:=call (A4u R L x x)
 have hc:cnt (.sl (.int .i64)) x=x.length+(x.map (cnt (.int .i64))).sum:=rfl
 rw[hq]
 simp only[uS,A2,Al,Aj]
 refine AI0 (fun i=>sT R L x x false i) x ?_ (fun i hlt=>?_) _ 0 rfl (Ar _)
 ·have hq:sT R L x x false (x.length:Nat)=_:=round (by kernel_rfl) (AR7 R L x x false (x.length:Nat))
  show sT R L x x false (x.length:Nat)=_
  rw[hq,AN4 (Ao _)];rfl
 ·have hq:sT R L x x false i=_:=round (by kernel_rfl) (AR7 R L x x false i)
  show sT R L x x false i=_
  rw[hq,AN5 hlt,nn,tn,zT hlt,zB (i:=i) (by omega)]
  simp only[Ah,uS,hM,A2,Al,Aj]
theorem Av0 (x:List (List UInt8)) (k:Nat) (hl:wV (.sl .str) x≤4611686018427387904) (h:k+nmk false (.sl .str) x≤4611686018427387904):mB R x k=some ((((mk_ mt false (.sl .str) x k).2:Nat):Int),((mk_ mt false (.sl .str) x k).1,())):=by
 have hq:mB R x k=_:=call (AY6 R L x k)
 have hc:nmk false (.sl .str) x=(x.map (nmk true .str)).sum:=rfl
 have hn:wV (.sl .str) x=x.length+(x.map (wV .str)).sum:=rfl
 have e:=jK (fun w k i=>wH R L w k 0 i) x.length ([]:List UInt8) (mk_ mt true .str) (nmk true .str) 4611686018427387904 (qQ mt true .str) (fun y=>wV .str y≤4611686018427387904) (fun w k hw=>by
  have hq:wH R L w k 0 (x.length:Nat)=_:=round (by kernel_rfl) (eL R L w k 0 (x.length:Nat))
  show wH R L w k 0 (x.length:Nat)=_
  rw[hq,AN4 (by omega)];rfl) (fun w k i hw hlt hb hQ=>by
  have hlt:i < w.length:=by omega
  have hq:wH R L w k 0 i=_:=round (by kernel_rfl) (eL R L w k 0 i)
  show wH R L w k 0 i=_
  have hb:k+1≤4611686018427387904:=hb
  have f1:=AI7 (k) (by omega)
  have f2:=zB (i:=k) (by omega)
  have fi:=zB (i:=i) (by omega)
  rw[hq,AN5 hlt]
  simp only[nn,tn,zT hlt,Ah,A5,ss,gs hlt,fi,Ac,f1,f2]
  rfl) _ 0 x k rfl (Ar _) rfl (by rw[Ap];exact h) (by rw[Ap];exact fun y hy=>A3 (cE (t:=.str) hy) hl)
 rw[hq]
 exact e
theorem A7l (x:List (BL2)) (k:Nat) (hl:wV (.sl bA) x≤4611686018427387904) (h:k+nmk false (.sl bA) x≤4611686018427387904):dP R x k=some ((((mk_ mt false (.sl bA) x k).2:Nat):Int),((mk_ mt false (.sl bA) x k).1,())):=by
 have hq:dP R x k=_:=call (A09 R L x k)
 have hc:nmk false (.sl bA) x=(x.map (nmk true bA)).sum:=rfl
 have hn:wV (.sl bA) x=x.length+(x.map (wV bA)).sum:=rfl
 have e:=jK (fun w k i=>tH R L w k 0 i) x.length ((0:Int),(([]:List UInt8),())) (mk_ mt true bA) (nmk true bA) 4611686018427387904 (qQ mt true bA) (fun y=>wV bA y≤4611686018427387904) (fun w k hw=>by
  have hq:tH R L w k 0 (x.length:Nat)=_:=round (by kernel_rfl) (AL7 R L w k 0 (x.length:Nat))
  show tH R L w k 0 (x.length:Nat)=_
  rw[hq,AN4 (by omega)];rfl) (fun w k i hw hlt hb hQ=>by
  have hlt:i < w.length:=by omega
  have hq:tH R L w k 0 i=_:=round (by kernel_rfl) (AL7 R L w k 0 i)
  show tH R L w k 0 i=_
  have hQ:(0+(0+(0)))≤4611686018427387904:=hQ
  have hb:k+(1+(1+(0)))≤4611686018427387904:=hb
  have f1:=zB (i:=k) (by omega)
  have f2:=AI7 (k+1) (by omega)
  have f3:=zB (i:=k+1) (by omega)
  have fi:=zB (i:=i) (by omega)
  rw[hq,AN5 hlt]
  simp only[nn,tn,zT hlt,Ah,A5,ss,gs hlt,fi,Ac,f1,f2,f3]
  rfl) _ 0 x k rfl (Ar _) rfl (by rw[Ap];exact h) (by rw[Ap];exact fun y hy=>A3 (cE (t:=bA) hy) hl)
 rw[hq]
 exact e
theorem AY8 (x:AL1) (k:Nat) (hl:wV xN x≤4611686018427387904) (h:k+nmk false xN x≤4611686018427387904):oL R x k=some ((((mk_ mt false xN x k).2:Nat):Int),((mk_ mt false xN x k).1,())):=by
 have hq:oL R x k=_:=call (Ae7 R L x k)
 have hn:wV xN x=(wV (.sl .str) x.1+(wV (.sl bA) x.2.1+(0))):=rfl
 have hc:nmk false xN x=(nmk false (.sl .str) x.1+(nmk false (.sl bA) x.2.1+(0))):=rfl
 rw[hq]
 refine aF (Av0 x.1 (k) (by omega) (by omega)) ?_
 have s1:=qQ mt false (.sl .str) x.1 (k)
 refine aF (A7l x.2.1 ((mk_ mt false (.sl .str) x.1 (k)).2) (by omega) (by omega)) ?_
 have s2:=qQ mt false (.sl bA) x.2.1 ((mk_ mt false (.sl .str) x.1 (k)).2)
 rfl
theorem A37 (x:AP6) (k:Nat) (hl:wV uZ x≤4611686018427387904) (h:k+nmk false uZ x≤4611686018427387904):jS R x k=some ((((mk_ mt false uZ x k).2:Nat):Int),((mk_ mt false uZ x k).1,())):=by
 have hq:jS R x k=_:=call (Aq5 R L x k)
 have hn:wV uZ x=(0+(wV lI x.2.1+(wV xN x.2.2.1+(0+(0+(0)))))):=rfl
 have hc:nmk false uZ x=(0+(nmk false lI x.2.1+(nmk false xN x.2.2.1+(0+(0+(0)))))):=rfl
 rw[hq]
 refine aF (AY8 x.2.2.1 (k) (by omega) (by omega)) ?_
 have s1:=qQ mt false xN x.2.2.1 (k)
 rfl
theorem A8u (x:List (Au5)) (k:Nat) (hl:wV (.sl cM) x≤4611686018427387904) (h:k+nmk false (.sl cM) x≤4611686018427387904):cF R x k=some ((((mk_ mt false (.sl cM) x k).2:Nat):Int),((mk_ mt false (.sl cM) x k).1,())):=by
 have hq:cF R x k=_:=call (A2L R L x k)
 have hc:nmk false (.sl cM) x=(x.map (nmk true cM)).sum:=rfl
 have hn:wV (.sl cM) x=x.length+(x.map (wV cM)).sum:=rfl
 have e:=jK (fun w k i=>tK R L w k 0 i) x.length ((0:Int),((0:Int),((0:Int),()))) (mk_ mt true cM) (nmk true cM) 4611686018427387904 (qQ mt true cM) (fun y=>wV cM y≤4611686018427387904) (fun w k hw=>by
  have hq:tK R L w k 0 (x.length:Nat)=_:=round (by kernel_rfl) (AJ0 R L w k 0 (x.length:Nat))
  show tK R L w k 0 (x.length:Nat)=_
  rw[hq,AN4 (by omega)];rfl) (fun w k i hw hlt hb hQ=>by
  have hlt:i < w.length:=by omega
  have hq:tK R L w k 0 i=_:=round (by kernel_rfl) (AJ0 R L w k 0 i)
  show tK R L w k 0 i=_
  have hQ:(0+(0+(0+(0))))≤4611686018427387904:=hQ
  have hb:k+(1+(1+(1+(0))))≤4611686018427387904:=hb
  have f1:=zB (i:=k) (by omega)
  have f2:=zB (i:=k+1) (by omega)
  have f3:=zB (i:=k+1+1) (by omega)
  have fi:=zB (i:=i) (by omega)
  rw[hq,AN5 hlt]
  simp only[nn,tn,zT hlt,Ah,A5,ss,gs hlt,fi,Ac,f1,f2,f3]
  rfl) _ 0 x k rfl (Ar _) rfl (by rw[Ap];exact h) (by rw[Ap];exact fun y hy=>A3 (cE (t:=cM) hy) hl)
 rw[hq]
 exact e
theorem A6S (x:List (bK)) (k:Nat) (hl:wV (.sl xW) x≤4611686018427387904) (h:k+nmk false (.sl xW) x≤4611686018427387904):gY R x k=some ((((mk_ mt false (.sl xW) x k).2:Nat):Int),((mk_ mt false (.sl xW) x k).1,())):=by
 have hq:gY R x k=_:=call (Aw5 R L x k)
 have hc:nmk false (.sl xW) x=(x.map (nmk true xW)).sum:=rfl
 have hn:wV (.sl xW) x=x.length+(x.map (wV xW)).sum:=rfl
 have e:=jK (fun w k i=>uR R L w k 0 i) x.length (([]:List (Au5)),()) (mk_ mt true xW) (nmk true xW) 4611686018427387904 (qQ mt true xW) (fun y=>wV xW y≤4611686018427387904) (fun w k hw=>by
  have hq:uR R L w k 0 (x.length:Nat)=_:=round (by kernel_rfl) (AD3 R L w k 0 (x.length:Nat))
  show uR R L w k 0 (x.length:Nat)=_
  rw[hq,AN4 (by omega)];rfl) (fun w k i hw hlt hb hQ=>by
  have hlt:i < w.length:=by omega
  have hq:uR R L w k 0 i=_:=round (by kernel_rfl) (AD3 R L w k 0 i)
  show uR R L w k 0 i=_
  have hQ:(wV (.sl cM) (w.getD i (([]:List (Au5)),())).1+(0))≤4611686018427387904:=hQ
  have hb:k+(nmk true (.sl cM) (w.getD i (([]:List (Au5)),())).1+(0))≤4611686018427387904:=hb
  have f1:=A8u (w.getD i (([]:List (Au5)),())).1 (k) (by first|exact hQ|omega) (by show _+nmk true (.sl cM) _≤_;first|exact hb|omega)
  have f2:=qQ mt true (.sl cM) (w.getD i (([]:List (Au5)),())).1 (k)
  have fi:=zB (i:=i) (by omega)
  rw[hq,AN5 hlt]
  simp only[nn,tn,zT hlt,Ah,A5,ss,gs hlt,fi,Ac,f1]
  rfl) _ 0 x k rfl (Ar _) rfl (by rw[Ap];exact h) (by rw[Ap];exact fun y hy=>A3 (cE (t:=xW) hy) hl)
 rw[hq]
 exact e
theorem A5P (x:List (Int)) (k:Nat) (hl:wV (.sl (.int .i64)) x≤4611686018427387904) (h:k+nmk false (.sl (.int .i64)) x≤4611686018427387904):gQ R x k=some ((((mk_ mt false (.sl (.int .i64)) x k).2:Nat):Int),((mk_ mt false (.sl (.int .i64)) x k).1,())):=by
 have hq:gQ R x k=_:=call (Ay0 R L x k)
 have hc:nmk false (.sl (.int .i64)) x=(x.map (nmk true (.int .i64))).sum:=rfl
 have hn:wV (.sl (.int .i64)) x=x.length+(x.map (wV (.int .i64))).sum:=rfl
 have e:=jK (fun w k i=>uU R L w k 0 i) x.length (0:Int) (mk_ mt true (.int .i64)) (nmk true (.int .i64)) 4611686018427387904 (qQ mt true (.int .i64)) (fun y=>wV (.int .i64) y≤4611686018427387904) (fun w k hw=>by
  have hq:uU R L w k 0 (x.length:Nat)=_:=round (by kernel_rfl) (AD7 R L w k 0 (x.length:Nat))
  show uU R L w k 0 (x.length:Nat)=_
  rw[hq,AN4 (by omega)];rfl) (fun w k i hw hlt hb hQ=>by
  have hlt:i < w.length:=by omega
  have hq:uU R L w k 0 i=_:=round (by kernel_rfl) (AD7 R L w k 0 i)
  show uU R L w k 0 i=_
  have hb:k+1≤4611686018427387904:=hb
  have f1:=zB (i:=k) (by omega)
  have fi:=zB (i:=i) (by omega)
  rw[hq,AN5 hlt]
  simp only[nn,tn,zT hlt,Ah,A5,ss,gs hlt,fi,Ac,f1]
  rfl) _ 0 x k rfl (Ar _) rfl (by rw[Ap];exact h) (by rw[Ap];exact fun y hy=>A3 (cE (t:=(.int .i64)) hy) hl)
 rw[hq]
 exact e
theorem Au0 (x:List (List UInt8)) (k k':Nat) (hl:wV (.sl .str) x≤4611686018427387904) (h:k'≤4611686018427387904) (hh:hd_ mt false (.sl .str) x k=some k'):nO R x k=some ((k':Int),()):=by
 have hq:nO R x k=_:=call (Ac4 R L x k)
 have hn:wV (.sl .str) x=x.length+(x.map (wV .str)).sum:=rfl
 have e:=jF (fun k i=>wE R L x k 0 i) x ([]:List UInt8) (hd_ mt true .str) (nmk true .str) 4611686018427387904 (rI mt true .str) (fun k=>by
  have hq:wE R L x k 0 (x.length:Nat)=_:=round (by kernel_rfl) (eF R L x k 0 (x.length:Nat))
  show wE R L x k 0 (x.length:Nat)=_
  rw[hq,AN4 (Ao _)];rfl) (fun k i k' hlt hh hb=>by
  have hq:wE R L x k 0 i=_:=round (by kernel_rfl) (eF R L x k 0 i)
  show wE R L x k 0 i=_
  have hm:wV .str (x.getD i ([]:List UInt8))≤wV (.sl .str) x:=gO (t:=.str) (x:=x) (d:=([]:List UInt8)) hlt
  have fi:=zB (i:=i) (by omega)
  obtain⟨g1,hh⟩:=At8 hh
  have g1:eqS (x.getD i ([]:List UInt8)) (mt (k))=true:=g1
  injection hh with hh
  have m1:=AI7 (k) (by omega)
  have w1:=zB (i:=k) (by omega)
  rw[hq,AN5 hlt]
  simp only[nn,tn,zT hlt,Ah,fi,Ac,A0y,Aj,Al,m1,g1,w1]
  rw[← hh]) _ 0 k k' rfl (Ar _) h (by rw[Ap];exact hh)
 rw[hq]
 exact e
theorem A7g (x:List (BL2)) (k k':Nat) (hl:wV (.sl bA) x≤4611686018427387904) (h:k'≤4611686018427387904) (hh:hd_ mt false (.sl bA) x k=some k'):eT R x k=some ((k':Int),()):=by
 have hq:eT R x k=_:=call (A1B R L x k)
 have hn:wV (.sl bA) x=x.length+(x.map (wV bA)).sum:=rfl
 have e:=jF (fun k i=>tL R L x k 0 i) x ((0:Int),(([]:List UInt8),())) (hd_ mt true bA) (nmk true bA) 4611686018427387904 (rI mt true bA) (fun k=>by
  have hq:tL R L x k 0 (x.length:Nat)=_:=round (by kernel_rfl) (AK1 R L x k 0 (x.length:Nat))
  show tL R L x k 0 (x.length:Nat)=_
  rw[hq,AN4 (Ao _)];rfl) (fun k i k' hlt hh hb=>by
  have hq:tL R L x k 0 i=_:=round (by kernel_rfl) (AK1 R L x k 0 i)
  show tL R L x k 0 i=_
  have hm:wV bA (x.getD i ((0:Int),(([]:List UInt8),())))≤wV (.sl bA) x:=gO (t:=bA) (x:=x) (d:=((0:Int),(([]:List UInt8),()))) hlt
  have fi:=zB (i:=i) (by omega)
  have hm:(0+(0+(0)))≤_:=hm
  obtain⟨g1,hh⟩:=kJ hh
  have g1:eqI (x.getD i ((0:Int),(([]:List UInt8),()))).1 ((k:Nat):Int)=true:=g1
  obtain⟨g2,hh⟩:=kJ hh
  have g2:eqS (x.getD i ((0:Int),(([]:List UInt8),()))).2.1 (mt (k+1))=true:=g2
  have hh:some (k+1+1)=some k':=hh
  injection hh with hh
  have w1:=zB (i:=k) (by omega)
  have m2:=AI7 (k+1) (by omega)
  have w2:=zB (i:=k+1) (by omega)
  rw[hq,AN5 hlt]
  simp only[nn,tn,zT hlt,Ah,fi,Ac,A0y,Aj,Al,g1,w1,m2,g2,w2]
  rw[← hh]) _ 0 k k' rfl (Ar _) h (by rw[Ap];exact hh)
 rw[hq]
 exact e
theorem Ab3 (x:AL1) (k k':Nat) (hl:wV xN x≤4611686018427387904) (h:k'≤4611686018427387904) (hh:hd_ mt false xN x k=some k'):oN R x k=some ((k':Int),()):=by
 have hq:oN R x k=_:=call (Ae5 R L x k)
 rw[hq]
 have hn:wV xN x=(wV (.sl .str) x.1+(wV (.sl bA) x.2.1+(0))):=rfl
 obtain⟨k1,g1,hh⟩:=As.1 hh
 have s1:=rI mt false _ _ _ _ g1
 obtain⟨k2,g2,hh⟩:=As.1 hh
 have s2:=rI mt false _ _ _ _ g2
 cases hh
 rw[Au0 x.1 _ _ (by omega) (by omega) g1]
 simp only[Ac,A0y,Aj]
 rw[A7g x.2.1 _ _ (by omega) (by omega) g2]
 simp only[Ac,A0y,Aj]
 all_goals rfl
theorem A4Y (x:AP6) (k k':Nat) (hl:wV uZ x≤4611686018427387904) (h:k'≤4611686018427387904) (hh:hd_ mt false uZ x k=some k'):jP R x k=some ((k':Int),()):=by
 have hq:jP R x k=_:=call (Aq7 R L x k)
 rw[hq]
 have hn:wV uZ x=(0+(wV lI x.2.1+(wV xN x.2.2.1+(0+(0+(0)))))):=rfl
 obtain⟨k1,g1,hh⟩:=As.1 hh
 have s1:=rI mt false _ _ _ _ g1
 obtain⟨k2,g2,hh⟩:=As.1 hh
 have s2:=rI mt false _ _ _ _ g2
 obtain⟨k3,g3,hh⟩:=As.1 hh
 have s3:=rI mt false _ _ _ _ g3
 obtain⟨k4,g4,hh⟩:=As.1 hh
 have s4:=rI mt false _ _ _ _ g4
 obtain⟨k5,g5,hh⟩:=As.1 hh
 have s5:=rI mt false _ _ _ _ g5
 cases hh
 cases g1
 cases g2
 rw[Ab3 x.2.2.1 _ _ (by omega) (by omega) g3]
 simp only[Ac,A0y,Aj]
 cases g4
 cases g5
 all_goals rfl
abbrev xC:Ty:=(.pair (.int .i64) (.pair (.int .i64) .unit))
abbrev Ac9:Type:=(Int × (Int × Unit))
theorem A8G (x:Ac9) (hx:cnt xC x≤1048576):cK R x x=some (true,()):=by
 have hq:cK R x x=_:=call (A12 R L x x)
 have hc:cnt xC x=(0+(0+(0))):=rfl
 rw[hq]
 simp only[uS,hM,eqB,A2,Al,Aj,Ac]
theorem A52 (x:List (Ac9)) (hx:cnt (.sl xC) x≤1048576):gN R x x=some (true,()):=by
 have hq:gN R x x=_:=call (Av8 R L x x)
 have hc:cnt (.sl xC) x=x.length+(x.map (cnt xC)).sum:=rfl
 rw[hq]
 simp only[uS,A2,Al,Aj]
 refine AI0 (fun i=>uP R L x x false i) x ?_ (fun i hlt=>?_) _ 0 rfl (Ar _)
 ·have hq:uP R L x x false (x.length:Nat)=_:=round (by kernel_rfl) (AF9 R L x x false (x.length:Nat))
  show uP R L x x false (x.length:Nat)=_
  rw[hq,AN4 (Ao _)];rfl
 ·have hq:uP R L x x false i=_:=round (by kernel_rfl) (AF9 R L x x false i)
  show uP R L x x false i=_
  rw[hq,AN5 hlt,nn,tn,zT hlt,zB (i:=i) (by omega)]
  have hm:cnt xC (x.getD i ((0:Int),((0:Int),())))≤cnt (.sl xC) x:=AQ5 (t:=xC) (x:=x) (d:=((0:Int),((0:Int),()))) hlt
  simp only[Ah]
  rw[A8G _ (by omega)]
  simp only[Ac,Al,Aj]
theorem A8C (x:List (List (bK))) (hx:cnt (.sl (.sl xW)) x≤1048576):dS R x x=some (true,()):=by
 have hq:dS R x x=_:=call (A1g R L x x)
 have hc:cnt (.sl (.sl xW)) x=x.length+(x.map (cnt (.sl xW))).sum:=rfl
 rw[hq]
 simp only[uS,A2,Al,Aj]
 refine AI0 (fun i=>tN R L x x false i) x ?_ (fun i hlt=>?_) _ 0 rfl (Ar _)
 ·have hq:tN R L x x false (x.length:Nat)=_:=round (by kernel_rfl) (AJ8 R L x x false (x.length:Nat))
  show tN R L x x false (x.length:Nat)=_
  rw[hq,AN4 (Ao _)];rfl
 ·have hq:tN R L x x false i=_:=round (by kernel_rfl) (AJ8 R L x x false i)
  show tN R L x x false i=_
  rw[hq,AN5 hlt,nn,tn,zT hlt,zB (i:=i) (by omega)]
  have hm:cnt (.sl xW) (x.getD i ([]:List (bK)))≤cnt (.sl (.sl xW)) x:=AQ5 (t:=(.sl xW)) (x:=x) (d:=([]:List (bK))) hlt
  simp only[Ah]
  rw[BA9 _ (by omega)]
  simp only[Ac,Al,Aj]
abbrev yL:Ty:=(.pair (.int .i64) (.pair (.sl (.int .i64)) .unit))
abbrev AK7:Type:=(Int × (List (Int) × Unit))
theorem A7E (x:AK7) (hx:cnt yL x≤1048576):gW R x x=some (true,()):=by
 have hq:gW R x x=_:=call (Au2 R L x x)
 have hc:cnt yL x=(0+(cnt (.sl (.int .i64)) x.2.1+(0))):=rfl
 have e1:=A9m x.2.1 (by omega)
 rw[hq]
 simp only[uS,hM,eqB,A2,Al,Aj,Ac,e1]
theorem A45 (x:List (AK7)) (hx:cnt (.sl yL) x≤1048576):jQ R x x=some (true,()):=by
 have hq:jQ R x x=_:=call (As0 R L x x)
 have hc:cnt (.sl yL) x=x.length+(x.map (cnt yL)).sum:=rfl
 rw[hq]
 simp only[uS,A2,Al,Aj]
 refine AI0 (fun i=>vX R L x x false i) x ?_ (fun i hlt=>?_) _ 0 rfl (Ar _)
 ·have hq:vX R L x x false (x.length:Nat)=_:=round (by kernel_rfl) (bW R L x x false (x.length:Nat))
  show vX R L x x false (x.length:Nat)=_
  rw[hq,AN4 (Ao _)];rfl
 ·have hq:vX R L x x false i=_:=round (by kernel_rfl) (bW R L x x false i)
  show vX R L x x false i=_
  rw[hq,AN5 hlt,nn,tn,zT hlt,zB (i:=i) (by omega)]
  have hm:cnt yL (x.getD i ((0:Int),(([]:List (Int)),())))≤cnt (.sl yL) x:=AQ5 (t:=yL) (x:=x) (d:=((0:Int),(([]:List (Int)),()))) hlt
  simp only[Ah]
  rw[A7E _ (by omega)]
  simp only[Ac,Al,Aj]
abbrev sH:Ty:=(.pair uZ (.pair xN (.pair (.sl xC) (.pair (.sl (.sl xW)) (.pair (.sl yL) (.pair .bool .unit))))))
abbrev iW:Type:=(AP6 × (AL1 × (List (Ac9) × (List (List (bK)) × (List (AK7) × (Bool × Unit))))))
theorem A77 (x:iW) (hx:cnt sH x≤1048576):iL R x x=some (true,()):=by
 have hq:iL R x x=_:=call (A01 R L x x)
 have hc:cnt sH x=(cnt uZ x.1+(cnt xN x.2.1+(cnt (.sl xC) x.2.2.1+(cnt (.sl (.sl xW)) x.2.2.2.1+(cnt (.sl yL) x.2.2.2.2.1+(0+(0))))))):=rfl
 have e1:=A8Z x.1 (by omega)
 have e2:=Av5 x.2.1 (by omega)
 have e3:=A52 x.2.2.1 (by omega)
 have e4:=A8C x.2.2.2.1 (by omega)
 have e5:=A45 x.2.2.2.2.1 (by omega)
 rw[hq]
 simp only[uS,hM,eqB,A2,Al,Aj,Ac,e1,e2,e3,e4,e5]
theorem A1k (x:List (Ac9)) (k:Nat) (hl:wV (.sl xC) x≤4611686018427387904) (h:k+nmk false (.sl xC) x≤4611686018427387904):lQ R x k=some ((((mk_ mt false (.sl xC) x k).2:Nat):Int),((mk_ mt false (.sl xC) x k).1,())):=by
 have hq:lQ R x k=_:=call (Af5 R L x k)
 have hc:nmk false (.sl xC) x=(x.map (nmk true xC)).sum:=rfl
 have hn:wV (.sl xC) x=x.length+(x.map (wV xC)).sum:=rfl
 have e:=jK (fun w k i=>wZ R L w k 0 i) x.length ((0:Int),((0:Int),())) (mk_ mt true xC) (nmk true xC) 4611686018427387904 (qQ mt true xC) (fun y=>wV xC y≤4611686018427387904) (fun w k hw=>by
  have hq:wZ R L w k 0 (x.length:Nat)=_:=round (by kernel_rfl) (cO R L w k 0 (x.length:Nat))
  show wZ R L w k 0 (x.length:Nat)=_
  rw[hq,AN4 (by omega)];rfl) (fun w k i hw hlt hb hQ=>by
  have hlt:i < w.length:=by omega
  have hq:wZ R L w k 0 i=_:=round (by kernel_rfl) (cO R L w k 0 i)
  show wZ R L w k 0 i=_
  have hQ:(0+(0+(0)))≤4611686018427387904:=hQ
  have hb:k+(1+(1+(0)))≤4611686018427387904:=hb
  have f1:=zB (i:=k) (by omega)
  have f2:=zB (i:=k+1) (by omega)
  have fi:=zB (i:=i) (by omega)
  rw[hq,AN5 hlt]
  simp only[nn,tn,zT hlt,Ah,A5,ss,gs hlt,fi,Ac,f1,f2]
  rfl) _ 0 x k rfl (Ar _) rfl (by rw[Ap];exact h) (by rw[Ap];exact fun y hy=>A3 (cE (t:=xC) hy) hl)
 rw[hq]
 exact e
theorem A4l (x:List (List (bK))) (k:Nat) (hl:wV (.sl (.sl xW)) x≤4611686018427387904) (h:k+nmk false (.sl (.sl xW)) x≤4611686018427387904):jB R x k=some ((((mk_ mt false (.sl (.sl xW)) x k).2:Nat):Int),((mk_ mt false (.sl (.sl xW)) x k).1,())):=by
 have hq:jB R x k=_:=call (Aq3 R L x k)
 have hc:nmk false (.sl (.sl xW)) x=(x.map (nmk true (.sl xW))).sum:=rfl
 have hn:wV (.sl (.sl xW)) x=x.length+(x.map (wV (.sl xW))).sum:=rfl
 have e:=jK (fun w k i=>vW R L w k 0 i) x.length ([]:List (bK)) (mk_ mt true (.sl xW)) (nmk true (.sl xW)) 4611686018427387904 (qQ mt true (.sl xW)) (fun y=>wV (.sl xW) y≤4611686018427387904) (fun w k hw=>by
  have hq:vW R L w k 0 (x.length:Nat)=_:=round (by kernel_rfl) (aL R L w k 0 (x.length:Nat))
  show vW R L w k 0 (x.length:Nat)=_
  rw[hq,AN4 (by omega)];rfl) (fun w k i hw hlt hb hQ=>by
  have hlt:i < w.length:=by omega
  have hq:vW R L w k 0 i=_:=round (by kernel_rfl) (aL R L w k 0 i)
  show vW R L w k 0 i=_
  have f1:=A6S (w.getD i ([]:List (bK))) (k) (by first|exact hQ|omega) (by show _+nmk true (.sl xW) _≤_;first|exact hb|omega)
  have f2:=qQ mt true (.sl xW) (w.getD i ([]:List (bK))) (k)
  have fi:=zB (i:=i) (by omega)
  rw[hq,AN5 hlt]
  simp only[nn,tn,zT hlt,Ah,A5,ss,gs hlt,fi,Ac,f1]
  rfl) _ 0 x k rfl (Ar _) rfl (by rw[Ap];exact h) (by rw[Ap];exact fun y hy=>A3 (cE (t:=(.sl xW)) hy) hl)
 rw[hq]
 exact e
theorem A0A (x:List (AK7)) (k:Nat) (hl:wV (.sl yL) x≤4611686018427387904) (h:k+nmk false (.sl yL) x≤4611686018427387904):nR R x k=some ((((mk_ mt false (.sl yL) x k).2:Nat):Int),((mk_ mt false (.sl yL) x k).1,())):=by
 have hq:nR R x k=_:=call (Ab7 R L x k)
 have hc:nmk false (.sl yL) x=(x.map (nmk true yL)).sum:=rfl
 have hn:wV (.sl yL) x=x.length+(x.map (wV yL)).sum:=rfl
 have e:=jK (fun w k i=>wD R L w k 0 i) x.length ((0:Int),(([]:List (Int)),())) (mk_ mt true yL) (nmk true yL) 4611686018427387904 (qQ mt true yL) (fun y=>wV yL y≤4611686018427387904) (fun w k hw=>by
  have hq:wD R L w k 0 (x.length:Nat)=_:=round (by kernel_rfl) (eE R L w k 0 (x.length:Nat))
  show wD R L w k 0 (x.length:Nat)=_
  rw[hq,AN4 (by omega)];rfl) (fun w k i hw hlt hb hQ=>by
  have hlt:i < w.length:=by omega
  have hq:wD R L w k 0 i=_:=round (by kernel_rfl) (eE R L w k 0 i)
  show wD R L w k 0 i=_
  have hQ:(0+(wV (.sl (.int .i64)) (w.getD i ((0:Int),(([]:List (Int)),()))).2.1+(0)))≤4611686018427387904:=hQ
  have hb:k+(1+(nmk true (.sl (.int .i64)) (w.getD i ((0:Int),(([]:List (Int)),()))).2.1+(0)))≤4611686018427387904:=hb
  have f1:=zB (i:=k) (by omega)
  have f2:=A5P (w.getD i ((0:Int),(([]:List (Int)),()))).2.1 (k+1) (by first|exact hQ|omega) (by show _+nmk true (.sl (.int .i64)) _≤_;first|exact hb|omega)
  have f3:=qQ mt true (.sl (.int .i64)) (w.getD i ((0:Int),(([]:List (Int)),()))).2.1 (k+1)
  have fi:=zB (i:=i) (by omega)
  rw[hq,AN5 hlt]
  simp only[nn,tn,zT hlt,Ah,A5,ss,gs hlt,fi,Ac,f1,f2]
  rfl) _ 0 x k rfl (Ar _) rfl (by rw[Ap];exact h) (by rw[Ap];exact fun y hy=>A3 (cE (t:=yL) hy) hl)
 rw[hq]
 exact e
theorem A4Z (x:iW) (k:Nat) (hl:wV sH x≤4611686018427387904) (h:k+nmk false sH x≤4611686018427387904):pX R x k=some ((((mk_ mt false sH x k).2:Nat):Int),((mk_ mt false sH x k).1,())):=by
 have hq:pX R x k=_:=call (As6 R L x k)
 have hn:wV sH x=(wV uZ x.1+(wV xN x.2.1+(wV (.sl xC) x.2.2.1+(wV (.sl (.sl xW)) x.2.2.2.1+(wV (.sl yL) x.2.2.2.2.1+(0+(0))))))):=rfl
 have hc:nmk false sH x=(nmk false uZ x.1+(nmk false xN x.2.1+(nmk false (.sl xC) x.2.2.1+(nmk false (.sl (.sl xW)) x.2.2.2.1+(nmk false (.sl yL) x.2.2.2.2.1+(0+(0))))))):=rfl
 rw[hq]
 refine aF (A37 x.1 (k) (by omega) (by omega)) ?_
 have s1:=qQ mt false uZ x.1 (k)
 refine aF (AY8 x.2.1 ((mk_ mt false uZ x.1 (k)).2) (by omega) (by omega)) ?_
 have s2:=qQ mt false xN x.2.1 ((mk_ mt false uZ x.1 (k)).2)
 refine aF (A1k x.2.2.1 ((mk_ mt false xN x.2.1 ((mk_ mt false uZ x.1 (k)).2)).2) (by omega) (by omega)) ?_
 have s3:=qQ mt false (.sl xC) x.2.2.1 ((mk_ mt false xN x.2.1 ((mk_ mt false uZ x.1 (k)).2)).2)
 refine aF (A4l x.2.2.2.1 ((mk_ mt false (.sl xC) x.2.2.1 ((mk_ mt false xN x.2.1 ((mk_ mt false uZ x.1 (k)).2)).2)).2) (by omega) (by omega)) ?_
 have s4:=qQ mt false (.sl (.sl xW)) x.2.2.2.1 ((mk_ mt false (.sl xC) x.2.2.1 ((mk_ mt false xN x.2.1 ((mk_ mt false uZ x.1 (k)).2)).2)).2)
 refine aF (A0A x.2.2.2.2.1 ((mk_ mt false (.sl (.sl xW)) x.2.2.2.1 ((mk_ mt false (.sl xC) x.2.2.1 ((mk_ mt false xN x.2.1 ((mk_ mt false uZ x.1 (k)).2)).2)).2)).2) (by omega) (by omega)) ?_
 have s5:=qQ mt false (.sl yL) x.2.2.2.2.1 ((mk_ mt false (.sl (.sl xW)) x.2.2.2.1 ((mk_ mt false (.sl xC) x.2.2.1 ((mk_ mt false xN x.2.1 ((mk_ mt false uZ x.1 (k)).2)).2)).2)).2)
 rfl
theorem A1R (x:List (Ac9)) (k k':Nat) (hl:wV (.sl xC) x≤4611686018427387904) (h:k'≤4611686018427387904) (hh:hd_ mt false (.sl xC) x k=some k'):lP R x k=some ((k':Int),()):=by
 have hq:lP R x k=_:=call (Af1 R L x k)
 have hn:wV (.sl xC) x=x.length+(x.map (wV xC)).sum:=rfl
 have e:=jF (fun k i=>vA R L x k 0 i) x ((0:Int),((0:Int),())) (hd_ mt true xC) (nmk true xC) 4611686018427387904 (rI mt true xC) (fun k=>by
  have hq:vA R L x k 0 (x.length:Nat)=_:=round (by kernel_rfl) (cT R L x k 0 (x.length:Nat))
  show vA R L x k 0 (x.length:Nat)=_
  rw[hq,AN4 (Ao _)];rfl) (fun k i k' hlt hh hb=>by
  have hq:vA R L x k 0 i=_:=round (by kernel_rfl) (cT R L x k 0 i)
  show vA R L x k 0 i=_
  have hm:wV xC (x.getD i ((0:Int),((0:Int),())))≤wV (.sl xC) x:=gO (t:=xC) (x:=x) (d:=((0:Int),((0:Int),()))) hlt
  have fi:=zB (i:=i) (by omega)
  have hm:(0+(0+(0)))≤_:=hm
  obtain⟨g1,hh⟩:=kJ hh
  have g1:eqI (x.getD i ((0:Int),((0:Int),()))).1 ((k:Nat):Int)=true:=g1
  obtain⟨g2,hh⟩:=kJ hh
  have g2:eqI (x.getD i ((0:Int),((0:Int),()))).2.1 ((k+1:Nat):Int)=true:=g2
  have hh:some (k+1+1)=some k':=hh
  injection hh with hh
  have w1:=zB (i:=k) (by omega)
  have w2:=zB (i:=k+1) (by omega)
  rw[hq,AN5 hlt]
  simp only[nn,tn,zT hlt,Ah,fi,Ac,A0y,Aj,Al,g1,w1,g2,w2]
  rw[← hh]) _ 0 k k' rfl (Ar _) h (by rw[Ap];exact hh)
 rw[hq]
 exact e
theorem A7z (x:List (Au5)) (k k':Nat) (hl:wV (.sl cM) x≤4611686018427387904) (h:k'≤4611686018427387904) (hh:hd_ mt false (.sl cM) x k=some k'):eN R x k=some ((k':Int),()):=by
 have hq:eN R x k=_:=call (A2A R L x k)
 have hn:wV (.sl cM) x=x.length+(x.map (wV cM)).sum:=rfl
 have e:=jF (fun k i=>tI R L x k 0 i) x ((0:Int),((0:Int),((0:Int),()))) (hd_ mt true cM) (nmk true cM) 4611686018427387904 (rI mt true cM) (fun k=>by
  have hq:tI R L x k 0 (x.length:Nat)=_:=round (by kernel_rfl) (AK8 R L x k 0 (x.length:Nat))
  show tI R L x k 0 (x.length:Nat)=_
  rw[hq,AN4 (Ao _)];rfl) (fun k i k' hlt hh hb=>by
  have hq:tI R L x k 0 i=_:=round (by kernel_rfl) (AK8 R L x k 0 i)
  show tI R L x k 0 i=_
  have hm:wV cM (x.getD i ((0:Int),((0:Int),((0:Int),()))))≤wV (.sl cM) x:=gO (t:=cM) (x:=x) (d:=((0:Int),((0:Int),((0:Int),())))) hlt
  have fi:=zB (i:=i) (by omega)
  have hm:(0+(0+(0+(0))))≤_:=hm
  obtain⟨g1,hh⟩:=kJ hh
  have g1:eqI (x.getD i ((0:Int),((0:Int),((0:Int),())))).1 ((k:Nat):Int)=true:=g1
  obtain⟨g2,hh⟩:=kJ hh
  have g2:eqI (x.getD i ((0:Int),((0:Int),((0:Int),())))).2.1 ((k+1:Nat):Int)=true:=g2
  obtain⟨g3,hh⟩:=kJ hh
  have g3:eqI (x.getD i ((0:Int),((0:Int),((0:Int),())))).2.2.1 ((k+1+1:Nat):Int)=true:=g3
  have hh:some (k+1+1+1)=some k':=hh
  injection hh with hh
  have w1:=zB (i:=k) (by omega)
  have w2:=zB (i:=k+1) (by omega)
  have w3:=zB (i:=k+1+1) (by omega)
  rw[hq,AN5 hlt]
  simp only[nn,tn,zT hlt,Ah,fi,Ac,A0y,Aj,Al,g1,w1,g2,w2,g3,w3]
  rw[← hh]) _ 0 k k' rfl (Ar _) h (by rw[Ap];exact hh)
 rw[hq]
 exact e
theorem A6L (x:List (bK)) (k k':Nat) (hl:wV (.sl xW) x≤4611686018427387904) (h:k'≤4611686018427387904) (hh:hd_ mt false (.sl xW) x k=some k'):gZ R x k=some ((k':Int),()):=by
 have hq:gZ R x k=_:=call (A0N R L x k)
 have hn:wV (.sl xW) x=x.length+(x.map (wV xW)).sum:=rfl
 have e:=jF (fun k i=>uQ R L x k 0 i) x (([]:List (Au5)),()) (hd_ mt true xW) (nmk true xW) 4611686018427387904 (rI mt true xW) (fun k=>by
  have hq:uQ R L x k 0 (x.length:Nat)=_:=round (by kernel_rfl) (AF3 R L x k 0 (x.length:Nat))
  show uQ R L x k 0 (x.length:Nat)=_
  rw[hq,AN4 (Ao _)];rfl) (fun k i k' hlt hh hb=>by
  have hq:uQ R L x k 0 i=_:=round (by kernel_rfl) (AF3 R L x k 0 i)
  show uQ R L x k 0 i=_
  have hm:wV xW (x.getD i (([]:List (Au5)),()))≤wV (.sl xW) x:=gO (t:=xW) (x:=x) (d:=(([]:List (Au5)),())) hlt
  have fi:=zB (i:=i) (by omega)
  have hm:(wV (.sl cM) (x.getD i (([]:List (Au5)),())).1+(0))≤_:=hm
  obtain⟨k1,g1,hh⟩:=As.1 hh
  have s1:=rI mt true _ _ _ _ g1
  have hh:some (k1)=some k':=hh
  injection hh with hh
  have q1:=A7z (x.getD i (([]:List (Au5)),())).1 (k) k1 (by omega) (by omega) g1
  rw[hq,AN5 hlt]
  simp only[nn,tn,zT hlt,Ah,fi,Ac,A0y,Aj,Al,q1]
  rw[← hh]) _ 0 k k' rfl (Ar _) h (by rw[Ap];exact hh)
 rw[hq]
 exact e
theorem A4Q (x:List (List (bK))) (k k':Nat) (hl:wV (.sl (.sl xW)) x≤4611686018427387904) (h:k'≤4611686018427387904) (hh:hd_ mt false (.sl (.sl xW)) x k=some k'):jT R x k=some ((k':Int),()):=by
 have hq:jT R x k=_:=call (Aq9 R L x k)
 have hn:wV (.sl (.sl xW)) x=x.length+(x.map (wV (.sl xW))).sum:=rfl
 have e:=jF (fun k i=>vU R L x k 0 i) x ([]:List (bK)) (hd_ mt true (.sl xW)) (nmk true (.sl xW)) 4611686018427387904 (rI mt true (.sl xW)) (fun k=>by
  have hq:vU R L x k 0 (x.length:Nat)=_:=round (by kernel_rfl) (bS R L x k 0 (x.length:Nat))
  show vU R L x k 0 (x.length:Nat)=_
  rw[hq,AN4 (Ao _)];rfl) (fun k i k' hlt hh hb=>by
  have hq:vU R L x k 0 i=_:=round (by kernel_rfl) (bS R L x k 0 i)
  show vU R L x k 0 i=_
  have hm:wV (.sl xW) (x.getD i ([]:List (bK)))≤wV (.sl (.sl xW)) x:=gO (t:=(.sl xW)) (x:=x) (d:=([]:List (bK))) hlt
  have fi:=zB (i:=i) (by omega)
  have g1:=hh
  have q1:=A6L (x.getD i ([]:List (bK))) (k) k' (by omega) (by omega) g1
  rw[hq,AN5 hlt]
  simp only[nn,tn,zT hlt,Ah,fi,Ac,A0y,Aj,Al,q1]
  ) _ 0 k k' rfl (Ar _) h (by rw[Ap];exact hh)
 rw[hq]
 exact e
theorem A6E (x:List (Int)) (k k':Nat) (hl:wV (.sl (.int .i64)) x≤4611686018427387904) (h:k'≤4611686018427387904) (hh:hd_ mt false (.sl (.int .i64)) x k=some k'):gP R x k=some ((k':Int),()):=by
 have hq:gP R x k=_:=call (A0o R L x k)
 have hn:wV (.sl (.int .i64)) x=x.length+(x.map (wV (.int .i64))).sum:=rfl
 have e:=jF (fun k i=>uO R L x k 0 i) x (0:Int) (hd_ mt true (.int .i64)) (nmk true (.int .i64)) 4611686018427387904 (rI mt true (.int .i64)) (fun k=>by
  have hq:uO R L x k 0 (x.length:Nat)=_:=round (by kernel_rfl) (AE8 R L x k 0 (x.length:Nat))
  show uO R L x k 0 (x.length:Nat)=_
  rw[hq,AN4 (Ao _)];rfl) (fun k i k' hlt hh hb=>by
  have hq:uO R L x k 0 i=_:=round (by kernel_rfl) (AE8 R L x k 0 i)
  show uO R L x k 0 i=_
  have hm:wV (.int .i64) (x.getD i (0:Int))≤wV (.sl (.int .i64)) x:=gO (t:=(.int .i64)) (x:=x) (d:=(0:Int)) hlt
  have fi:=zB (i:=i) (by omega)
  obtain⟨g1,hh⟩:=At8 hh
  have g1:eqI (x.getD i (0:Int)) ((k:Nat):Int)=true:=g1
  injection hh with hh
  have w1:=zB (i:=k) (by omega)
  rw[hq,AN5 hlt]
  simp only[nn,tn,zT hlt,Ah,fi,Ac,A0y,Aj,Al,g1,w1]
  rw[← hh]) _ 0 k k' rfl (Ar _) h (by rw[Ap];exact hh)
 rw[hq]
 exact e
theorem Az2 (x:List (AK7)) (k k':Nat) (hl:wV (.sl yL) x≤4611686018427387904) (h:k'≤4611686018427387904) (hh:hd_ mt false (.sl yL) x k=some k'):nU R x k=some ((k':Int),()):=by
 have hq:nU R x k=_:=call (AX4 R L x k)
 have hn:wV (.sl yL) x=x.length+(x.map (wV yL)).sum:=rfl
 have e:=jF (fun k i=>wF R L x k 0 i) x ((0:Int),(([]:List (Int)),())) (hd_ mt true yL) (nmk true yL) 4611686018427387904 (rI mt true yL) (fun k=>by
  have hq:wF R L x k 0 (x.length:Nat)=_:=round (by kernel_rfl) (fP R L x k 0 (x.length:Nat))
  show wF R L x k 0 (x.length:Nat)=_
  rw[hq,AN4 (Ao _)];rfl) (fun k i k' hlt hh hb=>by
  have hq:wF R L x k 0 i=_:=round (by kernel_rfl) (fP R L x k 0 i)
  show wF R L x k 0 i=_
  have hm:wV yL (x.getD i ((0:Int),(([]:List (Int)),())))≤wV (.sl yL) x:=gO (t:=yL) (x:=x) (d:=((0:Int),(([]:List (Int)),()))) hlt
  have fi:=zB (i:=i) (by omega)
  have hm:(0+(wV (.sl (.int .i64)) (x.getD i ((0:Int),(([]:List (Int)),()))).2.1+(0)))≤_:=hm
  obtain⟨g1,hh⟩:=kJ hh
  have g1:eqI (x.getD i ((0:Int),(([]:List (Int)),()))).1 ((k:Nat):Int)=true:=g1
  obtain⟨k2,g2,hh⟩:=As.1 hh
  have s2:=rI mt true _ _ _ _ g2
  have hh:some (k2)=some k':=hh
  injection hh with hh
  have w1:=zB (i:=k) (by omega)
  have q2:=A6E (x.getD i ((0:Int),(([]:List (Int)),()))).2.1 (k+1) k2 (by omega) (by omega) g2
  rw[hq,AN5 hlt]
  simp only[nn,tn,zT hlt,Ah,fi,Ac,A0y,Aj,Al,g1,w1,q2]
  rw[← hh]) _ 0 k k' rfl (Ar _) h (by rw[Ap];exact hh)
 rw[hq]
 exact e
theorem A4t (x:iW) (k k':Nat) (hl:wV sH x≤4611686018427387904) (h:k'≤4611686018427387904) (hh:hd_ mt false sH x k=some k'):rZ R x k=some ((k':Int),()):=by
 have hq:rZ R x k=_:=call (Ar7 R L x k)
 rw[hq]
 have hn:wV sH x=(wV uZ x.1+(wV xN x.2.1+(wV (.sl xC) x.2.2.1+(wV (.sl (.sl xW)) x.2.2.2.1+(wV (.sl yL) x.2.2.2.2.1+(0+(0))))))):=rfl
 obtain⟨k1,g1,hh⟩:=As.1 hh
 have s1:=rI mt false _ _ _ _ g1
 obtain⟨k2,g2,hh⟩:=As.1 hh
 have s2:=rI mt false _ _ _ _ g2
 obtain⟨k3,g3,hh⟩:=As.1 hh
 have s3:=rI mt false _ _ _ _ g3
 obtain⟨k4,g4,hh⟩:=As.1 hh
 have s4:=rI mt false _ _ _ _ g4
 obtain⟨k5,g5,hh⟩:=As.1 hh
 have s5:=rI mt false _ _ _ _ g5
 obtain⟨k6,g6,hh⟩:=As.1 hh
 have s6:=rI mt false _ _ _ _ g6
 cases hh
 rw[A4Y x.1 _ _ (by omega) (by omega) g1]
 simp only[Ac,A0y,Aj]
 rw[Ab3 x.2.1 _ _ (by omega) (by omega) g2]
 simp only[Ac,A0y,Aj]
 rw[A1R x.2.2.1 _ _ (by omega) (by omega) g3]
 simp only[Ac,A0y,Aj]
 rw[A4Q x.2.2.2.1 _ _ (by omega) (by omega) g4]
 simp only[Ac,A0y,Aj]
 rw[Az2 x.2.2.2.2.1 _ _ (by omega) (by omega) g5]
 simp only[Ac,A0y,Aj]
 cases g6
 all_goals rfl
theorem AL4 (R:Run EE) (s0:Int) (a0:FnVal):kW EE R (.mk 268 (.fn a0 .nil)) [⟨(.int .i64),s0⟩]=(lK R s0 a0).map (·.1):=by kernel_rfl
theorem aI (R:Run EE) (s0:List UInt8) (a0:FnVal):kW EE R (.mk 254 (.fn a0 .nil)) [⟨.str,s0⟩]=(oC R s0 a0).map (·.1):=by kernel_rfl
theorem AZ3 (R:Run EE) (s0:List UInt8)  : kW EE R (.mk 186 .nil) [⟨.str,s0⟩]=(fI R s0 ).map (·.1):=by kernel_rfl
abbrev A32:FuncId:=205
theorem A1p (R:Run EE) (s0:Int)  : kW EE R (.mk 205 .nil) [⟨(.int .i64),s0⟩]=(aQ R s0 ).map (·.1):=by kernel_rfl
theorem mW (x:List (Int)) (w:FnVal) (p:Int→Bool) (hl:x.length≤4611686018427387904) (hp:∀ s ∈ x,kW EE R w [⟨(.int .i64),s⟩]=some (p s)):wS R x w=some (BD8 p x 0,()):=by
 have hq:wS R x w=_:=call (kP R L x w)
 have hq0:vY R L x w 0 x.length 0=_:=round (by kernel_rfl) (mS R L x w 0 x.length 0)
 have hq1:zK R L x w 0 0 x.length 0=_:=round (by kernel_rfl) (uG R L x w 0 0 x.length 0)
 rw[hq,hq0.trans hq1.symm]
 refine A1C (fun a i=>zK R L x w 0 a x.length i) x (0:Int) p (fun a=>?_) (fun a i hlt=>?_) _ 0 0 rfl (Ar _)
 ·have hq:zK R L x w 0 a x.length (x.length:Nat)=_:=round (by kernel_rfl) (uG R L x w 0 a x.length (x.length:Nat))
  show zK R L x w 0 a x.length (x.length:Nat)=_
  rw[hq,AN4 (Ao _)];rfl
 ·have hq:zK R L x w 0 a x.length i=_:=round (by kernel_rfl) (uG R L x w 0 a x.length i)
  show zK R L x w 0 a x.length i=_
  rw[hq,AN5 hlt,nn,tn,zT hlt,zB (by omega)]
  simp only[Ah]
  rw[hp _ (pZ (d:=(0:Int)) hlt)]
  rfl
theorem oD (x:List (List UInt8)) (w:FnVal) (p:List UInt8→Bool) (hl:x.length≤4611686018427387904) (hp:∀ s ∈ x,kW EE R w [⟨.str,s⟩]=some (p s)):xI R x w=some (BD8 p x 0,()):=by
 have hq:xI R x w=_:=call (oU R L x w)
 have hq0:xZ R L x w 0 x.length 0=_:=round (by kernel_rfl) (oB R L x w 0 x.length 0)
 have hq1:zE R L x w 0 0 x.length 0=_:=round (by kernel_rfl) (wB R L x w 0 0 x.length 0)
 rw[hq,hq0.trans hq1.symm]
 refine A1C (fun a i=>zE R L x w 0 a x.length i) x ([]:List UInt8) p (fun a=>?_) (fun a i hlt=>?_) _ 0 0 rfl (Ar _)
 ·have hq:zE R L x w 0 a x.length (x.length:Nat)=_:=round (by kernel_rfl) (wB R L x w 0 a x.length (x.length:Nat))
  show zE R L x w 0 a x.length (x.length:Nat)=_
  rw[hq,AN4 (Ao _)];rfl
 ·have hq:zE R L x w 0 a x.length i=_:=round (by kernel_rfl) (wB R L x w 0 a x.length i)
  show zE R L x w 0 a x.length i=_
  rw[hq,AN5 hlt,nn,tn,zT hlt,zB (by omega)]
  simp only[Ah]
  rw[hp _ (pZ (d:=([]:List UInt8)) hlt)]
  rfl
theorem nM (x:List (Int)) (w:FnVal) (p:Int→Bool) (hl:x.length≤4611686018427387904) (hp:∀ s ∈ x,kW EE R w [⟨(.int .i64),s⟩]=some (p s)):xP R x w=some (x.any p,()):=by
 have hq:xP R x w=_:=call (mM R L x w)
 rw[hq,mW x w p hl hp]
 simp only[Ac]
 rw[An6]
theorem qV (x:List (List UInt8)) (w:FnVal) (p:List UInt8→Bool) (hl:x.length≤4611686018427387904) (hp:∀ s ∈ x,kW EE R w [⟨.str,s⟩]=some (p s)):yW R x w=some (x.any p,()):=by
 have hq:yW R x w=_:=call (pO R L x w)
 rw[hq,oD x w p hl hp]
 simp only[Ac]
 rw[An6]
theorem AQ9 (x:List (Int)) (v:FnVal) (p:Int→Bool) (hl:x.length≤4611686018427387904) (hp:∀ s ∈ x,kW EE R v [⟨(.int .i64),s⟩]=some (p s)):rJ R x v=some (x.all p,()):=by
 have hq:rJ R x v=_:=call (Ac1 R L x v)
 rw[hq,nM x (.mk 268 (.fn v .nil)) (fun s=>!p s) hl (fun s hs=>by
  have h1:lK R s v=_:=call (AP1 R L s v)
  rw[AL4,h1,hp s hs];rfl)]
 simp only[Ac]
 rw[A6e]
theorem AC2 (x:List (List UInt8)) (v:FnVal) (p:List UInt8→Bool) (hl:x.length≤4611686018427387904) (hp:∀ s ∈ x,kW EE R v [⟨.str,s⟩]=some (p s)):sY R x v=some (x.all p,()):=by
 have hq:sY R x v=_:=call (AK6 R L x v)
 rw[hq,qV x (.mk 254 (.fn v .nil)) (fun s=>!p s) hl (fun s hs=>by
  have h1:oC R s v=_:=call (AC0 R L s v)
  rw[aI,h1,hp s hs];rfl)]
 simp only[Ac]
 rw[A6e]
end Go.Rf.S

end
section
namespace Go.Rf.S
set_option maxRecDepth 100000
def inB (n a b:Int):Bool:=decide (a≤n)&&decide (n≤b)
theorem A7X (n a b:Int):AM0 R n a b=some (inB n a b,()):=by
 have hq:AM0 R n a b=_:=call (A6H R L n a b)
 rw[hq]
 unfold inB
 cases decide (a≤n)<;>rfl
theorem A36 (n a b:Int):aV R n a b=some (inB n a b,()):=by
 have hq:aV R n a b=_:=call (A4i R L n a b)
 rw[hq]
 unfold inB
 cases decide (a≤n)<;>rfl
theorem A5E (a b:Int):As8 a b=min a b:=by
 unfold As8
 by_cases h:b < a
 ·rw[Ai h];simp only[Ah];omega
 ·rw[Ak h];simp only[Aj];omega
end Go.Rf.S

end
section
namespace Go.Rf.S
set_option maxRecDepth 100000
theorem A7S (l:List Int) (h:l.length≤1099511627776):wO R l=some (l,()):=by
 rw[show wO R l=_ from call (fL R L l)]
 cases l with
 | nil=>exact AB6 _
 | cons a l=>show cond (zX (0+(a :: l).length)) (some (a :: l,())) none=_;rw[wC (by omega)];rfl
def NN (l:List Int):Prop:=∀ x ∈ l,0≤x
theorem NN.app {a b:List Int} (ha:NN a) (hb:NN b):NN (a++b):=fun x hx=>(Bo.1 hx).elim (ha x) (hb x)
theorem NN.cl {l:List Int} (h:NN l):∃ m:List Nat,l=cl m:=⟨l.map Aq,by
 unfold Go.Rf.cl
 rw[Bi]
 have:∀ x ∈ l,((fun x:Nat=>(x:Int)) ∘ Aq) x=id x:=fun x hx=>Int.toNat_of_nonneg (h x hx)
 rw[Bz this,List.map_id]⟩
theorem NN.rep (n:Nat):NN (Aa n (0:Int)):=fun x hx=>by rw[(Ba.1 hx).2];decide
theorem BA2 (x:Int):(itx x).length=4:=by unfold itx;rw[AF1,lJ _ _ (by decide)]
theorem A27 (l:List Int):(l.flatMap itx).length=4 * l.length:=by
 induction l with
 | nil=>rfl
 | cons a l ih=>rw[AH,Ae,ih,BA2];simp only[Ad];omega
theorem BL1 (a b:List Nat):ub (a++b)=ub a++ub b:=AK
theorem BM4 (l:List Nat):(cl l).flatMap itx=ub (l.flatMap fun x=>lit x 4):=by
 induction l with
 | nil=>rfl
 | cons a l ih=>
  rw[AH,BL1,← ih];rfl
theorem BK3 (l:List Nat) (hl:l.length≤1000):hY R (cl l)=some ((cl l).flatMap itx,()):=by
 have h:=AB8 (fun (o:List Nat) i=>qI R L (cl l) (cl o) i) l 0 (fun x=>lit x 4) (fun o=>some (ub o,())) [] 4 (fun x _=>by rw[lJ _ _ (by decide)];omega)
  (fun o ho=>by
   rw[show qI R L (cl l) (cl o) (l.length:Nat)=_ from round (by kernel_rfl) (AI4 R L (cl l) (cl o) (l.length:Nat)),AU6,oI]
   simp (disch:=omega) only[st,dF])
  (fun o i hi ho _=>by
   simp only[Af] at ho
   rw[show qI R L (cl l) (cl o) (i:Nat)=_ from round (by kernel_rfl) (AI4 R L (cl l) (cl o) (i:Nat)),oI,zB (by omega)]
   simp (disch:=omega) only[st,dT,zY,A5y o (by omega)])
 rw[show hY R (cl l)=_ from call (A1T R L (cl l)),BM4]
 exact h
theorem A9g {l:List Int} (h:NN l) (hl:l.length≤1000):aA R l=some (l.flatMap itx,())∧hY R l=some (l.flatMap itx,()):=by
 obtain⟨m,rfl⟩:=h.cl
 rw[oI] at hl
 exact⟨A31 m (by omega),BK3 m hl⟩
def fil (l:List Int) (n:Nat):List Int:=l++Aa (n - l.length) 0
theorem A7A {l:List Int} {n:Nat} (h:l.length≤n):(fil l n).length=n:=by unfold fil;rw[Ae,An];omega
theorem A9J (n:Nat) (hn:n≤1000):∀ (k:Nat) (l:List Int),l.length+k=n→NN l→qJ R L l (n:Int)=some ((fil l n).flatMap itx,())
 | 0,l,h,hl=>by
  rw[show qJ R L l (n:Int)=_ from round (by kernel_rfl) (AN3 R L l (n:Int))]
  simp (disch:=omega) only[st,dF,(A9g hl (by omega)).2]
  unfold fil
  rw[show n - l.length=0 by omega,AV,AE]
 | k+1,l,h,hl=>by
  rw[show qJ R L l (n:Int)=_ from round (by kernel_rfl) (AN3 R L l (n:Int))]
  simp (disch:=omega) only[st,dT]
  rw[A9J n hn k (l++[0]) (by rw[Ae];simp only[Ad,Af];omega) (hl.app (NN.rep 1))]
  unfold fil
  rw[Az,show n - l.length=(n - (l++[0]).length)+1 by rw[Ae];simp only[Ad,Af];omega]
  rfl
theorem A9c {l:List Int} {n:Nat} (hn:n≤1000) (h:l.length≤n) (hl:NN l):pQ R l (n:Int)=some ((fil l n).flatMap itx,())∧tT R l (n:Int)=some ((fil l n).flatMap itx,()):=by
 constructor
 ·rw[show pQ R l (n:Int)=_ from call (A4H R L l (n:Int)),show Ab .i64 ((n:Int) - (l.length:Int))=((n - l.length:Nat):Int) by rw[yI (by omega) (by omega)];omega]
  simp (disch:=omega) only[st,An,(A9g (hl.app (NN.rep (n - l.length))) (by rw[Ae,An];omega)).1]
  rfl
 ·exact AQ (call (A14 R L l (n:Int)):tT R l (n:Int)=_) (A9J n hn (n - l.length) l (by omega) hl)
abbrev DB:Type:=Int × (Int × (Int × Unit))
abbrev DR:Type:=Int × (List Int × Unit)
abbrev DE:Type:=List Int × ((List Int × (List DB × (List (List DB) × Unit))) × Unit)
def b3 (b:DB):List Int:=[b.1,b.2.1,b.2.2.1]
def A3A (l:List DB):List Int:=(l.length:Int) :: l.flatMap b3
def A9d (r:DR):List Int:=[r.1,(r.2.1.length:Int)]++r.2.1
theorem BJ3 (l:List DB):(l.flatMap b3).length=3 * l.length:=by
 induction l with
 | nil=>rfl
 | cons a l ih=>rw[AH,Ae,ih];simp only[b3,Ad,Af];omega
theorem AA4 (l:List DB):(A3A l).length=3 * l.length+1:=by unfold A3A;rw[Ad,BJ3]
theorem BL9 (l:List DB) (hl:l.length≤1000):oO R l=some (A3A l,()):=by
 have h:=AB8 (fun (o:List Int) i=>tO R L o l (l.length:Int) i) l (0,(0,(0,()))) b3 (fun o=>some (o,())) [(l.length:Int)] 3 (fun x _=>Ao _)
  (fun o ho=>by
   rw[show tO R L o l (l.length:Int) (l.length:Nat)=_ from round (by kernel_rfl) (cS R L o l (l.length:Int) (l.length:Nat))]
   simp (disch:=omega) only[st,dF])
  (fun o i hi ho _=>by
   simp only[Ad,Af] at ho
   rw[show tO R L o l (l.length:Int) (i:Nat)=_ from round (by kernel_rfl) (cS R L o l (l.length:Int) (i:Nat)),zB (by omega)]
   simp (disch:=omega) only[st,dT,Ad,Af]
   rfl)
 rw[show oO R l=_ from call (Ae3 R L l)]
 exact h
def BG6 (l:List DB):List UInt8:=(fil (A3A l) 7).flatMap itx
theorem Ap0 {l:List DB} (hl:l.length≤2):(BG6 l).length=28:=by unfold BG6;rw[A27,A7A (by rw[AA4];omega)]
theorem BC2 {l:List DB} (h:∀ b ∈ l,NN (b3 b)):NN (A3A l):=fun x hx=>by
 rcases AO.1 hx with rfl|hx
 ·omega
 ·obtain⟨b,hb,hx⟩:=List.mem_flatMap.1 hx
  exact h b hb x hx
theorem BK2 {l:List DB} (hl:l.length≤2) (h:∀ b ∈ l,NN (b3 b)):oF R l=some (BG6 l,())∧mH R l=some (BG6 l,()):=by
 have hf:=A9c (n:=7) (by decide) (show (A3A l).length≤7 by rw[AA4];omega) (BC2 h)
 have f1:pQ R (A3A l) 7=_:=hf.1
 have f2:tT R (A3A l) 7=_:=hf.2
 constructor
 ·rw[show oF R l=_ from call (Ae2 R L l),BL9 l (by omega)]
  simp only[st,f1];rfl
 ·have hh:=AB8 (fun (o:List Int) i=>sM R L l o i) l (0,(0,(0,()))) b3 (fun o=>(tT R o 7).bind fun r0=>some (r0.1,())) [(l.length:Int)] 3 (fun x _=>Ao _)
   (fun o ho=>by
    rw[show sM R L l o (l.length:Nat)=_ from round (by kernel_rfl) (bD R L l o (l.length:Nat))]
    simp (disch:=omega) only[st,dF])
   (fun o i hi ho _=>by
    simp only[Ad,Af] at ho
    rw[show sM R L l o (i:Nat)=_ from round (by kernel_rfl) (bD R L l o (i:Nat)),zB (by omega)]
    simp (disch:=omega) only[st,dT,Ad,Af]
    rfl)
  rw[show mH R l=_ from call (Ao3 R L l)]
  refine hh.trans ?_
  show (tT R (A3A l) 7).bind _=_
  rw[f2];rfl
def stI (e:DE) (rs:List DR):List Int:=(((e.2.1.1++A3A e.2.1.2.1)++e.1)++[(rs.length:Int)])++rs.flatMap A9d
def A7b (e:DE) (rs:List DR):List UInt8:=(fil (stI e rs) 140).flatMap itx
theorem A7i {e:DE} {rs:List DR} (h:(stI e rs).length≤140):(A7b e rs).length=560:=by unfold A7b;rw[A27,A7A h]
theorem A0m {α:Type} {g:α→List Int} {l:List α} {x:α} (h:x ∈ l):(g x).length≤(l.flatMap g).length:=by
 obtain⟨a,b,rfl⟩:=List.append_of_mem h
 rw[List.flatMap_append,AH,Ae,Ae];omega
theorem A8X {α:Type} {g:α→List Int} (c:Nat) (l:List α) (h:∀ x ∈ l,c≤(g x).length):c * l.length≤(l.flatMap g).length:=by
 induction l with
 | nil=>simp
 | cons a l ih=>
  have:=h a (B5 ..)
  have:=ih fun x hx=>h x (Bt _ hx)
  rw[AH,Ae,Ad,Bu];omega
theorem Aq4 (r:DR):(A9d r).length=r.2.1.length+2:=by unfold A9d;rw[Ae];simp only[Ad,Af];omega
theorem BD9 {e:DE} {rs:List DR} (hl:(stI e rs).length≤140) (hN:NN (stI e rs)):jI R e rs=some (A7b e rs,())∧gM R e rs=some (A7b e rs,()):=by
 have hf:=A9c (n:=140) (by decide) hl hN
 have f1:pQ R (stI e rs) 140=_:=hf.1
 have f2:tT R (stI e rs) 140=_:=hf.2
 have hl':=hl
 unfold stI at hl'
 simp only[Ae,AA4,Ad,Af] at hl'
 have hr2:=A8X 2 rs fun r _=>show 2≤(A9d r).length by rw[Aq4];omega
 have hc:∀ r ∈ rs,(A9d r).length≤140:=fun r hr=>by have:=A0m (g:=A9d) hr;omega
 constructor
 ·have h:=AB8 (fun (o:List Int) i=>sK R L o rs (rs.length:Int) i) rs (0,([],())) A9d (fun o=>(pQ R o 140).bind fun r0=>some (r0.1,())) (((e.2.1.1++A3A e.2.1.2.1)++e.1)++[(rs.length:Int)]) 140 hc
   (fun o ho=>by
    rw[show sK R L o rs (rs.length:Int) (rs.length:Nat)=_ from round (by kernel_rfl) (bC R L o rs (rs.length:Int) (rs.length:Nat))]
    simp (disch:=omega) only[st,dF])
   (fun o i hi ho hm=>by
    have hv:=hc _ hm
    rw[Aq4] at hv
    simp only[Ae,AA4,Ad,Af] at ho
    have hb:i * 140≤rs.length * 140:=Bv _ (by omega)
    rw[show sK R L o rs (rs.length:Int) (i:Nat)=_ from round (by kernel_rfl) (bC R L o rs (rs.length:Int) (i:Nat)),zB (by omega)]
    simp (disch:=omega) only[st,dT,Ad,Af]
    rw[Az];rfl)
  rw[show jI R e rs=_ from call (Ar4 R L e rs),A7S _ (by omega),BL9 _ (by omega)]
  simp (disch:=omega) only[st,AA4,Ae]
  refine h.trans ?_
  show (pQ R (stI e rs) 140).bind _=_
  rw[f1];rfl
 ·have h2:=AB8 (fun (o:List Int) i=>tW R L rs o i) rs (0,([],())) A9d (fun o=>(tT R o 140).bind fun r0=>some (r0.1,())) (((e.2.1.1++A3A e.2.1.2.1)++e.1)++[(rs.length:Int)]) 140 hc
   (fun o ho=>by
    rw[show tW R L rs o (rs.length:Nat)=_ from round (by kernel_rfl) (AF6 R L rs o (rs.length:Nat))]
    simp (disch:=omega) only[st,dF])
   (fun o i hi ho hm=>by
    have hv:=hc _ hm
    rw[Aq4] at hv
    simp only[Ae,AA4,Ad,Af] at ho
    have hb:i * 140≤rs.length * 140:=Bv _ (by omega)
    rw[show tW R L rs o (i:Nat)=_ from round (by kernel_rfl) (AF6 R L rs o (i:Nat)),zB (by omega)]
    simp (disch:=omega) only[st,dT,Ad,Af]
    rw[Az];rfl)
  have h1:=AB8 (fun (o:List Int) i=>rH R L rs e o i) e.2.1.2.1 (0,(0,(0,()))) b3 (fun o=>tW R L rs ((o++e.1)++[(rs.length:Int)]) 0) (([]++e.2.1.1)++[(e.2.1.2.1.length:Int)]) 3 (fun x _=>Ao _)
   (fun o ho=>by
    simp only[Ae,Ad,Af] at ho
    rw[show rH R L rs e o (e.2.1.2.1.length:Nat)=_ from round (by kernel_rfl) (AF0 R L rs e o (e.2.1.2.1.length:Nat))]
    simp (disch:=omega) only[st,dF])
   (fun o i hi ho hm=>by
    simp only[Ae,Ad,Af] at ho
    rw[show rH R L rs e o (i:Nat)=_ from round (by kernel_rfl) (AF0 R L rs e o (i:Nat)),zB (by omega)]
    simp (disch:=omega) only[st,dT,Ad,Af]
    rfl)
  have e1:(([]++e.2.1.1)++[(e.2.1.2.1.length:Int)])++e.2.1.2.1.flatMap b3=e.2.1.1++A3A e.2.1.2.1:=by rw[AS,Az];rfl
  rw[e1] at h1
  rw[show gM R e rs=_ from call (A0f R L e rs)]
  simp (disch:=omega) only[st,Af]
  refine h1.trans (h2.trans ?_)
  show (tT R (stI e rs) 140).bind _=_
  rw[f2];rfl
end Go.Rf.S

end
section
namespace Go.Rf.S
set_option maxRecDepth 100000
structure EW (e:DE) (rs:List DR):Prop where
 st:(stI e rs).length≤140
 nn:NN (stI e rs)
 nb:e.2.1.2.2.1.length=15
 bk:∀ l ∈ e.2.1.2.2.1,l.length≤2∧∀ b ∈ l,NN (b3 b)
noncomputable def A4W (key:List UInt8) (side epoch i:Nat) (l:List DB):List UInt8:=A1y key 2 (16 * side+1+i) epoch (BG6 l)
noncomputable def A3c (key:List UInt8) (side epoch:Nat) (e:DE) (rs:List DR):List (List UInt8):=[A1y key 1 (16 * side) epoch (A7b e rs)]++e.2.1.2.2.1.mapIdx (A4W key side epoch)
theorem BK8 {key:List UInt8} {e:DE} {rs:List DR} (hk:key.length=32) (h:EW e rs) {side epoch:Nat} (hs:side≤1) (he:epoch≤4294967296):
  qZ R key (side:Int) e rs (epoch:Int)=some (A3c key side epoch e rs,())∧gC R key (side:Int) (epoch:Int) e rs=some (A3c key side epoch e rs,()) ∧
  (A3c key side epoch e rs).length=16∧∀ s ∈ A3c key side epoch e rs,s.length≤700:=by
 obtain⟨s1,s2⟩:=BD9 h.st h.nn
 have sl:=A7i h.st
 have e16:Ab .i64 (16 * (side:Int))=((16 * side:Nat):Int):=by rw[yI (by omega) (by omega)];omega
 obtain⟨d1,d2,d3⟩:=An4 (t:=A7b e rs) hk (by omega) 1 (16 * side) epoch
 have d1':mX R key 1 ((16 * side:Nat):Int) (epoch:Int) (A7b e rs)=_:=d1
 have d2':oT R key 1 ((16 * side:Nat):Int) (epoch:Int) (A7b e rs)=_:=d2
 have hb:∀ i,i < e.2.1.2.2.1.length→∃ t,oF R (e.2.1.2.2.1.getD i [])=some (t,())∧mH R (e.2.1.2.2.1.getD i [])=some (t,()) ∧
   mX R key 2 ((16 * side+1+i:Nat):Int) (epoch:Int) t=some (A4W key side epoch i (e.2.1.2.2.1.getD i []),()) ∧
   oT R key 2 ((16 * side+1+i:Nat):Int) (epoch:Int) t=some (A4W key side epoch i (e.2.1.2.2.1.getD i []),()):=fun i hi=>by
  obtain⟨h1,h2⟩:=h.bk _ (pZ (d:=[]) hi)
  obtain⟨b1,b2⟩:=BK2 h1 h2
  obtain⟨c1,c2,_⟩:=An4 (t:=BG6 (e.2.1.2.2.1.getD i [])) hk (by rw[Ap0 h1];decide) 2 (16 * side+1+i) epoch
  exact⟨_,b1,b2,c1,c2⟩
 have nb:=h.nb
 refine⟨?_,?_,by unfold A3c;rw[Ae,A',nb];rfl,fun s hs=>?_⟩
 ·rw[show qZ R key (side:Int) e rs (epoch:Int)=_ from call (AY2 R L key (side:Int) e rs (epoch:Int)),s1,e16]
  simp only[st,d1']
  exact Aa5 (fun o i=>uX R L key (epoch:Int) ((16 * side:Nat):Int) o e.2.1.2.2.1 (e.2.1.2.2.1.length:Int) i) e.2.1.2.2.1 [] (A4W key side epoch) (fun o=>some (o,())) [A1y key 1 (16 * side) epoch (A7b e rs)]
   (fun o ho=>by
    rw[show uX R L key (epoch:Int) ((16 * side:Nat):Int) o e.2.1.2.2.1 (e.2.1.2.2.1.length:Int) (e.2.1.2.2.1.length:Nat)=_ from round (by kernel_rfl) (eH R L key (epoch:Int) ((16 * side:Nat):Int) o e.2.1.2.2.1 (e.2.1.2.2.1.length:Int) (e.2.1.2.2.1.length:Nat))]
    simp (disch:=omega) only[st,dF])
   (fun o i hi ho=>by
    obtain⟨t,b1,b2,b3,b4⟩:=hb i hi
    simp only[Ad,Af] at ho
    have eb:Ab .i64 (((16 * side:Nat):Int)+1)=((16 * side+1:Nat):Int):=zB (by omega)
    have ea:Ab .i64 (((16 * side+1:Nat):Int)+(i:Int))=((16 * side+1+i:Nat):Int):=by rw[yI (by omega) (by omega)];omega
    rw[show uX R L key (epoch:Int) ((16 * side:Nat):Int) o e.2.1.2.2.1 (e.2.1.2.2.1.length:Int) (i:Nat)=_ from round (by kernel_rfl) (eH R L key (epoch:Int) ((16 * side:Nat):Int) o e.2.1.2.2.1 (e.2.1.2.2.1.length:Int) (i:Nat)),zB (i:=i) (by omega),eb,ea]
    simp (disch:=omega) only[st,dT,b1,b3])
 ·rw[show gC R key (side:Int) (epoch:Int) e rs=_ from call (A1O R L key (side:Int) (epoch:Int) e rs),s2,e16]
  simp only[st,d2']
  have hh:=Aa5 (fun o i=>qK R L key (side:Int) (epoch:Int) e o i) e.2.1.2.2.1 [] (A4W key side epoch) (fun o=>some (o,())) [A1y key 1 (16 * side) epoch (A7b e rs)]
   (fun o ho=>by
    rw[show qK R L key (side:Int) (epoch:Int) e o (e.2.1.2.2.1.length:Nat)=_ from round (by kernel_rfl) (AN2 R L key (side:Int) (epoch:Int) e o (e.2.1.2.2.1.length:Nat))]
    simp (disch:=omega) only[st,dF])
   (fun o i hi ho=>by
    obtain⟨t,b1,b2,b3,b4⟩:=hb i hi
    simp only[Ad,Af] at ho
    have eb:Ab .i64 (((16 * side:Nat):Int)+1)=((16 * side+1:Nat):Int):=zB (by omega)
    have ea:Ab .i64 (((16 * side+1:Nat):Int)+(i:Int))=((16 * side+1+i:Nat):Int):=by rw[yI (by omega) (by omega)];omega
    rw[show qK R L key (side:Int) (epoch:Int) e o (i:Nat)=_ from round (by kernel_rfl) (AN2 R L key (side:Int) (epoch:Int) e o (i:Nat)),zB (i:=i) (by omega),e16,eb,ea]
    simp (disch:=omega) only[st,dT,b2,b4])
  exact hh
 ·rcases Bo.1 hs with hs|hs
  ·rw[B6.1 hs,d3];omega
  ·obtain⟨i,hi,rfl⟩:=Bn.1 hs
   obtain⟨h1,h2⟩:=h.bk _ (List.getElem_mem hi)
   unfold A4W
   rw[(An4 hk (by rw[Ap0 h1];decide) _ _ _).2.2,Ap0 h1];decide
end Go.Rf.S

end
section
namespace Go.Rf.S
set_option maxRecDepth 100000
def AV2 (n:Int):Bool:=inB n 0 7
theorem A8A (n:Int):aQ R n=some (AV2 n,()):=by
 rw[show aQ R n=_ from call (A4k R L n),A36];rfl
theorem A4M (l:List Int) (hl:l.length≤4096):rJ R l (.mk A32 .nil)=some (l.all AV2,()):=
 AQ9 l _ AV2 (by omega) fun s _=>by rw[A1p,A8A];rfl
theorem A8S (l:List Int) (hl:l.length≤4096):jR R l=some (l.all AV2,()):=by
 have h:∀ (n i:Nat),l.length - i=n→i≤l.length→sJ R L l (i:Int)=some ((l.drop i).all AV2,()):=by
  intro n
  induction n with
  | zero=>
   intro i hn hi
   have:i=l.length:=by omega
   subst this
   rw[show sJ R L l (l.length:Nat)=_ from round (by kernel_rfl) (bU R L l (l.length:Nat)),BB]
   simp (disch:=omega) only[st,dF,List.all_nil]
  | succ n ih=>
   intro i hn hi
   rw[show sJ R L l (i:Nat)=_ from round (by kernel_rfl) (bU R L l (i:Nat)),zB (by omega),ih (i+1) (by omega) (by omega),oM (d:=0) (show i < l.length by omega),List.all_cons]
   simp (disch:=omega) only[st,dT,A7X]
   unfold AV2
   cases inB (l.getD i 0) 0 7<;>rfl
 rw[show jR R l=_ from call (An5 R L l)]
 exact h l.length 0 rfl (Ar _)
abbrev noE:DE:=([],(([],([],([],()))),()))
def A89 (l:List Int):DE:=(Aa 11 0,((l,([],(Aa 15 [],()))),()))
def aD (l:List Int):Int:=if 4096 < l.length then 2 else if l.length≠12 then 8 else if l.all AV2=false then 4 else 0
theorem A3u (l:List Int) (hl:l.length≤1048576):gI R l=some (aD l,()):=by
 rw[show gI R l=_ from call (Au3 R L l)]
 unfold aD
 by_cases h1:4096 < l.length
 ·simp (disch:=omega) only[st,dT,A7 h1]
 ·rw[A4 h1]
  by_cases h2:l.length≠12
  ·simp (disch:=omega) only[st,dF,A7 h2,A8]
  ·rw[A4 h2]
   simp (disch:=omega) only[st,dF,Al]
   rw[show rJ R l (FnVal.mk 205 FCaps.nil)=_ from A4M l (by omega)]
   cases l.all AV2<;>rfl
theorem A8s (l:List Int) (hl:l.length≤1048576):AA8 R l=some (if aD l=0 then A89 l else noE,(aD l,())):=by
 have e:dB R l=some (if aD l=0 then (l,([],(Aa 15 [],()))) else ([],([],([],()))),(aD l,())):=by
  rw[show dB R l=_ from call (A1V R L l),A3u l hl]
  by_cases h:aD l=0
  ·rw[A7 h,h,A7S l (by omega)];rfl
  ·rw[A4 h];simp (disch:=omega) only[st,A8]
 rw[show AA8 R l=_ from call (A30 R L l),e]
 by_cases h:aD l=0
 ·rw[A7 h,A7 h,h];rfl
 ·rw[A4 h,A4 h];simp (disch:=omega) only[st,A8]
theorem A8d (l:List Int) (h:aD l=0):AB5 R l=some (A89 l,(0,())):=by
 have hl:l.length=12∧l.all AV2=true:=by
  unfold aD at h
  split at h
  ·cases h
  ·split at h
   ·cases h
   ·split at h
    ·cases h
    ·rename_i h1 h2;exact⟨by omega,by simpa using h2⟩
 have e:aT R l=some ((l,([],(Aa 15 [],()))),()):=by
  rw[show aT R l=_ from call (A33 R L l)]
  simp (disch:=omega) only[st,Af];rfl
 have e2:dD R l=some ((l,([],(Aa 15 [],()))),(0,())):=by
  rw[show dD R l=_ from call (A2F R L l),A8S l (by omega),e,hl.2]
  simp (disch:=omega) only[st,dF,Al]
 rw[show AB5 R l=_ from call (A4T R L l),e2]
 simp (disch:=omega) only[st,dF,Al]
 rfl
theorem BC0 {l:List Int} (h:aD l=0):EW (A89 l) []:=by
 have hl:l.length=12∧l.all AV2=true:=by
  unfold aD at h
  split at h
  ·cases h
  ·split at h
   ·cases h
   ·split at h
    ·cases h
    ·rename_i h1 h2;exact⟨by omega,by simpa using h2⟩
 have hN:NN l:=fun x hx=>by
  have:=List.all_eq_true.1 hl.2 x hx
  simp only[AV2,inB,Bool.and_eq_true,decide_eq_true_eq] at this
  exact this.1
 have e:stI (A89 l) []=((l++[0])++Aa 11 0)++[0]:=by simp[stI,A89,A3A]
 refine⟨?_,?_,rfl,fun b hb=>?_⟩
 ·rw[e];simp only[Ae,An,Ad,Af];omega
 ·rw[e];exact ((hN.app (NN.rep 1)).app (NN.rep 11)).app (NN.rep 1)
 ·have:b=[]:=(Ba.1 (show b ∈ Aa 15 [] from hb)).2
  subst this
  exact⟨by decide,fun x hx=>by cases hx⟩
end Go.Rf.S

end
section
namespace Go.Rf.S
set_option maxRecDepth 100000
abbrev DI:Type:=Int × (List UInt8 × Unit)
abbrev DD:Type:=List (List UInt8) × (List DI × Unit)
theorem A90 (l:List (List UInt8)) (h:l.length≤1099511627776):xY R l=some (l,()):=by
 rw[show xY R l=_ from call (lM R L l)]
 cases l with
 | nil=>exact AB6 _
 | cons a l=>show cond (zX (0+(a :: l).length)) (some (a :: l,())) none=_;rw[wC (by omega)];rfl
theorem BC5 (l:List DI) (h:l.length≤1099511627776):vO R l=some (l,()):=by
 rw[show vO R l=_ from call (iQ R L l)]
 cases l with
 | nil=>exact AB6 _
 | cons a l=>show cond (zX (0+(a :: l).length)) (some (a :: l,())) none=_;rw[wC (by omega)];rfl
theorem A6C (d:DD) (h1:d.1.length≤1048576) (h2:d.2.1.length≤1048576):lZ R d=some (d,())∧lL R d=some (d,()):=by
 constructor
 ·rw[show lZ R d=_ from call (Af0 R L d),A90 _ (by omega),BC5 _ (by omega)];rfl
 ·rw[show lL R d=_ from call (A39 R L d)]
  simp (disch:=omega) only[st,Af];rfl
def A3k (s:List (List UInt8)):Nat→List (List UInt8)→List (List UInt8)
 | _,[]=>s
 | j,t :: r=>A3k (s.set j t) (j+1) r
theorem A2g:∀ (l s:List (List UInt8)) (j:Nat),j+l.length≤s.length→A3k s j l=s.take j++l++s.drop (j+l.length)
 | [],s,j,h=>by simp[A3k]
 | t :: r,s,j,h=>by
  simp only[Ad] at h
  rw[A3k,A2g r (s.set j t) (j+1) (by rw[A5];omega),List.take_add_one,List.take_set_of_le (Ao _),List.getElem?_set_self (by omega),List.drop_set_of_lt (by omega)]
  simp only[Ad,Option.toList_some,Az,List.singleton_append,Bf,AS]
  rw[show j+1+r.length=j+(r.length+1) by omega]
def A7V (a:Nat) (l:List (List UInt8)):List DI:=l.mapIdx fun i t=>(((a+i:Nat):Int),(t,()))
def BO0 (s:List (List UInt8)) (u:List DI):List (List UInt8):=u.foldl (fun s x=>s.set x.1.toNat x.2.1) s
theorem A2y:∀ (l s:List (List UInt8)) (a:Nat),BO0 s (A7V a l)=A3k s a l
 | [],s,a=>rfl
 | t :: r,s,a=>by
  have e:A7V a (t :: r)=((a:Int),(t,())) :: A7V (a+1) r:=by
   unfold A7V
   rw[List.mapIdx_cons]
   congr 1
   apply List.mapIdx_eq_mapIdx_iff.2
   intro i hi
   rw[show a+(i+1)=a+1+i by omega]
  rw[e,A3k,← A2y r (s.set a t) (a+1)]
  rfl
def BS6 (n:Nat) (u:List DI):Prop:=∀ x ∈ u,0≤x.1∧x.1.toNat < n
theorem BH9 (d:DD) (h1:d.1.length≤1048576) (h2:d.2.1.length≤1048576) (ha:BS6 d.1.length d.2.1):eU R d=some ((BO0 d.1 d.2.1,([],())),()):=by
 have h:∀ (n i:Nat) (s:List (List UInt8)),d.2.1.length - i=n→i≤d.2.1.length→s.length=d.1.length→qM R L d ([],([],())) (s,([],())) (i:Int)=some ((BO0 s (d.2.1.drop i),([],())),()):=by
  intro n
  induction n with
  | zero=>
   intro i s hn hi hs
   have:i=d.2.1.length:=by omega
   subst this
   rw[show qM R L d ([],([],())) (s,([],())) (d.2.1.length:Nat)=_ from round (by kernel_rfl) (AI3 R L d _ _ (d.2.1.length:Nat)),BB]
   simp (disch:=omega) only[st,dF]
   rfl
  | succ n ih=>
   intro i s hn hi hs
   obtain⟨a1,a2⟩:=ha _ (pZ (d:=(0,([],()))) (show i < d.2.1.length by omega))
   rw[show qM R L d ([],([],())) (s,([],())) (i:Nat)=_ from round (by kernel_rfl) (AI3 R L d _ _ (i:Nat)),zB (by omega)]
   simp (disch:=omega) only[st,dT]
   rw[ih (i+1) _ (by omega) (by omega) (by rw[A5];exact hs),oM (d:=(0,([],()))) (show i < d.2.1.length by omega)]
   rfl
 rw[show eU R d=_ from call (A1P R L d)]
 simp (disch:=omega) only[st,Af]
 exact h d.2.1.length 0 d.1 rfl (Ar _) rfl
theorem A9q (d:DD) (a:Nat) (t:List UInt8) (h2:d.2.1.length≤1048576):nH R d (a:Int) t=some ((d.1,(d.2.1++[((a:Int),(t,()))],())),()):=by
 rw[show nH R d (a:Int) t=_ from call (A0n R L d (a:Int) t)]
 simp (disch:=omega) only[st,Af]
 rfl
theorem BP5 (d:DD) (side:Nat) (l:List (List UInt8)) (hs:side≤1) (hl:l.length≤1000) (h2:d.2.1.length≤1000):fW R d (side:Int) l=some ((d.1,(d.2.1++A7V (16 * side) l,())),()):=by
 have e16:Ab .i64 (16 * (side:Int))=((16 * side:Nat):Int):=by rw[yI (by omega) (by omega)];omega
 have hq:∀ (F:DD→Int→Option (DD × Unit)),(∀ v i,F v i=cond (decide (i < (l.length:Int))) (cond (zA i) (cond (BD i.toNat l.length) ((nH R v (Ab .i64 ((Ab .i64 (16 * (side:Int)))+i)) (l.getD i.toNat [])).bind fun r0=>F r0.1 (Ab .i64 (i+1))) none) none) (some (v,()))) →
   F d 0=some ((d.1,(d.2.1++A7V (16 * side) l,())),()):=by
  intro F hF
  exact Aa5 (fun o i=>F (d.1,(o,())) i) l [] (fun i t=>(((16 * side+i:Nat):Int),(t,()))) (fun o=>some ((d.1,(o,())),())) d.2.1
   (fun o ho=>by
    rw[hF];simp (disch:=omega) only[st,dF])
   (fun o i hi ho=>by
    rw[hF,e16,show Ab .i64 (((16 * side:Nat):Int)+(i:Int))=((16 * side+i:Nat):Int) by rw[yI (by omega) (by omega)];omega,zB (by omega),A9q _ _ _ (by show o.length≤_;omega)]
    simp (disch:=omega) only[st,dT])
 have q1:∀ v i,jN R L (side:Int) l v ([],([],())) i=_:=fun v i=>round (by kernel_rfl) (As9 R L (side:Int) l v ([],([],())) i)
 have q0:∀ v i,dA R L (side:Int) l v ([],([],())) i=_:=fun v i=>round (by kernel_rfl) (A0F R L (side:Int) l v ([],([],())) i)
 rw[show fW R d (side:Int) l=_ from call (A44 R L d (side:Int) l),q0,← q1]
 exact hq _ q1
end Go.Rf.S

end
section
namespace Go.Rf.S
set_option maxRecDepth 100000
end Go.Rf.S

end
section
namespace Go.Rf.S
set_option maxRecDepth 100000
def wd:Ty→Nat
 | .sl t=>wd t
 | .pair a b=>wd a+wd b
 | _=>1
theorem AM3:∀ (c:Bool) (t:Ty) (x:t.D),nmk c t x≤wd t * (cnt t x+1)
 | c,.sl t,x=>by
  have h:∀ l:List t.D,(l.map (nmk true t)).sum≤wd t * (l.length+(l.map (cnt t)).sum):=fun l=>by
   induction l with
   | nil=>simp
   | cons a l ih=>
    have:=AM3 true t a
    simp only[B1,BE,Ad]
    have e:wd t * (l.length+1+(cnt t a+(l.map (cnt t)).sum))=wd t * (cnt t a+1)+wd t * (l.length+(l.map (cnt t)).sum):=by rw[← Bu];congr 1;omega
    omega
  have e:nmk c (.sl t) x=(A9 (nmk true t) x).sum:=by cases c<;>rfl
  have e2:cnt (.sl t) x=List.length x+(A9 (cnt t) x).sum:=rfl
  rw[e,e2]
  have:=h x
  show _≤wd t * _
  rw[Bu];omega
 | c,.pair a b,x=>by
  have h1:=AM3 c a x.1
  have h2:=AM3 c b x.2
  have e:nmk c (.pair a b) x=nmk c a x.1+nmk c b x.2:=by cases c<;>rfl
  have e2:cnt (.pair a b) x=cnt a x.1+cnt b x.2:=rfl
  rw[e,e2]
  show _≤(wd a+wd b) * _
  have e3:(wd a+wd b) * (cnt a x.1+cnt b x.2+1)=wd a * (cnt a x.1+1)+wd a * cnt b x.2+(wd b * (cnt b x.2+1)+wd b * cnt a x.1):=by
   simp only[Nat.add_mul,Bu,Nat.mul_one];omega
  omega
 | c,.int _,x=>by cases c<;>simp[nmk,wd,cnt]
 | c,.bool,x=>by cases c<;>simp[nmk,wd,cnt]
 | c,.str,x=>by cases c<;>simp[nmk,wd,cnt]
 | c,.fn,x=>by cases c<;>simp[nmk,wd,cnt]
 | c,.unit,x=>by cases c<;>simp[nmk,wd,cnt]
 | c,.ptr _,x=>by cases c<;>simp[nmk,wd,cnt]
 | c,.arr _ _,x=>by cases c<;>simp[nmk,wd,cnt]
theorem BS1 (x:iW) (k:Nat) (hx:cnt sH x≤1048576) (hk:k≤100000000):∃ (k':Nat) (x':iW),pX R x k=some ((k':Int),(x',()))∧rZ R x' k=some ((k':Int),()):=by
 have n1:=AM3 false sH x
 have w:wd sH=35:=rfl
 rw[w] at n1
 have l1:=AW8 sH x
 have s1:=qQ mt false sH x k
 exact⟨_,_,A4Z x k (by omega) (by omega),A4t (mk_ mt false sH x k).1 k _ (A3 (Nat.le_of_eq (Ad1 mt false sH x k)) (by omega)) (by omega) (A6y mt false sH x k)⟩
theorem A4f (l:List (List UInt8)) (hl:l.length≤100) (hs:∀ s ∈ l,s.length≤1099511627776):gU R l=some (l.all fun s=>decide (s.length≤65536),()):=by
 rw[show gU R l=_ from call (Av2 R L l),show sY R l (FnVal.mk 186 FCaps.nil)=_ from AC2 l _ (fun s=>decide (s.length≤65536)) (by omega) fun s _=>by
  rw[AZ3,show fI R s=_ from call (Ae4 R L s)]
  show some (decide ((s.length:Int)≤65536))=_
  congr 1
  rw[decide_eq_decide];omega]
 rfl
abbrev noS:AP6:=([],((0,(0,(0,(0,([],([],([],()))))))),(([],([],())),(false,(false,())))))
abbrev noW:iW:=(noS,(([],([],())),([],([],([],(false,()))))))
def A9D:List UInt8:=[98,101,103,105,110]
noncomputable def A2t (key:List UInt8) (l:List Int):List (List UInt8):=A3c key 0 0 (A89 l) []
noncomputable def newS (key:List UInt8) (l:List Int):AP6:=(key,((0,(0,(0,(0,(dig A9D,(dig A9D,(A4z (A2t key l),()))))))),((A2t key l++Aa 24 [],([],())),(true,(false,())))))
noncomputable def A0a (key:List UInt8) (l:List Int):iW:=(newS key l,((A2t key l++Aa 24 [],([],())),([],([],([],(true,()))))))
def dI (key:List UInt8) (l:List Int):Int:=if 65536 < key.length then 2 else if 4096 < l.length then 2 else if key.length≠32 then 8 else aD l
theorem A7Q {key:List UInt8} {l:List Int} (h:dI key l=0):key.length=32∧l.length=12∧l.all AV2=true∧aD l=0:=by
 unfold dI at h
 split at h
 ·cases h
 ·split at h
  ·cases h
  ·split at h
   ·cases h
   ·rename_i h1 h2 h3
    have hh:=h
    unfold aD at h
    split at h
    ·cases h
    ·split at h
     ·cases h
     ·split at h
      ·cases h
      ·rename_i h4 h5 h6;exact⟨by omega,by omega,by simpa using h6,hh⟩
theorem Au7 {key:List UInt8} {l:List Int} (h:dI key l=0):qZ R key 0 (A89 l) [] 0=some (A2t key l,())∧gC R key 0 0 (A89 l) []=some (A2t key l,())∧(A2t key l).length=16∧∀ s ∈ A2t key l,s.length≤700:=by
 obtain⟨h1,h2,h3,h4⟩:=A7Q h
 exact BK8 (side:=0) (epoch:=0) h1 (BC0 h4) (by decide) (by decide)
theorem BK6 (key:List UInt8) (l:List Int) (hk:key.length≤1048576) (hl:l.length≤1048576):AW2 R key l=some (if dI key l=0 then newS key l else noS,(dI key l,())):=by
 have hq:AW2 R key l=_:=call (A8E R L key l)
 rw[hq,A4f [key] (by simp) (fun s hs=>by rw[B6.1 hs];omega),A8s l hl,show [key].all (fun s=>decide (s.length≤65536))=decide (key.length≤65536) by simp]
 by_cases h1:65536 < key.length
 ·have e:dI key l=2:=A7 h1
  rw[e,A4 (show ¬ (2:Int)=0 by decide)]
  simp (disch:=omega) only[st,dF,A8]
 ·by_cases h2:4096 < l.length
  ·have e:dI key l=2:=by unfold dI;rw[A4 h1,A7 h2]
   rw[e,A4 (show ¬ (2:Int)=0 by decide)]
   simp (disch:=omega) only[st,dT,Al]
  ·by_cases h3:key.length≠32
   ·have e:dI key l=8:=by unfold dI;rw[A4 h1,A4 h2,A7 h3]
    rw[e,A4 (show ¬ (8:Int)=0 by decide)]
    simp (disch:=omega) only[st,dT,dF,Al,A8]
   ·have e:dI key l=aD l:=by unfold dI;rw[A4 h1,A4 h2,A4 h3]
    by_cases h4:aD l=0
    ·have h0:dI key l=0:=by rw[e,h4]
     obtain⟨s1,s2,s3,s4⟩:=Au7 h0
     have hr:=(A84 s3 (fun s hs=>A3 (s4 s hs) (by decide))).1
     have hd:dN R=some ((Aa 40 [],([],())),()):=call (Ap8 R L)
     have hf:kH R=some (dig A9D,()):=by
      rw[show kH R=_ from call (A0S R L)]
      show (lA R A9D).bind _=_
      rw[Am6 A9D (by decide)];rfl
     rw[h0,h4,hd,hf]
     simp (disch:=omega) only[st,dT,dF,Al,if_true,s1,s3,hr,An]
     rfl
    ·rw[e,A4 h4,A4 h4]
     simp (disch:=omega) only[st,dT,dF,Al,A8]
theorem BQ2 (l:List (List UInt8)) (hl:l.length=16):BO0 (Aa 40 []) (A7V 0 l)=l++Aa 24 []:=by
 rw[A2y,A2g _ _ _ (by rw[An];omega),hl]
 simp
theorem BG9 (key:List UInt8) (l:List Int) (h:dI key l=0):cG R key l=some (newS key l,()):=by
 obtain⟨h1,h2,h3,h4⟩:=A7Q h
 obtain⟨s1,s2,s3,s4⟩:=Au7 h
 unfold newS
 generalize A2t key l=S at s1 s2 s3 s4
 have hr:=(A84 s3 (fun s hs=>A3 (s4 s hs) (by decide))).2
 have hd:eS R=some ((Aa 40 [],([],())),()):=call (Ar0 R L)
 have hly:=BP5 (Aa 40 [],([],())) 0 S (by decide) (by omega) (Ar _)
 rw[Nat.mul_zero,AS] at hly
 have ll:(A7V 0 S).length=16:=by unfold A7V;rw[A',s3]
 have hsy:=BH9 (Aa 40 [],(A7V 0 S,())) (by rw[An];decide) (by show (A7V 0 S).length≤_;omega) (fun x hx=>by
  obtain⟨i,hi,rfl⟩:=Bn.1 hx
  rw[s3] at hi
  rw[An]
  show 0≤((0+i:Nat):Int)∧((0+i:Nat):Int).toNat < 40
  omega)
 rw[BQ2 _ s3] at hsy
 have hb:gB R [98,101,103,105,110]=some (dig A9D,()):=A1z A9D (by decide)
 rw[show cG R key l=_ from call (A1n R L key l),A8d l h4]
 simp only[st,s2,hb,hr,hd]
 rw[show fW R (Aa 40 [],([],())) 0 S=_ from hly]
 simp only[st,hsy]
theorem A4S (key:List UInt8) (l:List Int) (hk:key.length≤1048576) (hl:l.length≤1048576):nG R key l=some (if dI key l=0 then A0a key l else noW,(dI key l,())):=by
 rw[show nG R key l=_ from call (Ax2 R L key l),BK6 key l hk hl]
 by_cases h:dI key l=0
 ·obtain⟨s1,s2,s3,s4⟩:=Au7 h
  have:=(A6C (A2t key l++Aa 24 [],([],())) (by rw[Ae,s3,An];decide) (Ar _)).1
  rw[A7 h,A7 h,h]
  have e:(newS key l).2.2.1=(A2t key l++Aa 24 [],([],())):=rfl
  simp (disch:=omega) only[st,Al,e,this]
  rfl
 ·rw[A4 h,A4 h]
  simp (disch:=omega) only[st,A8]
end Go.Rf.S

end
section
namespace Go.Rf.S
set_option maxRecDepth 100000
theorem BR0 (l:List (List UInt8)) (n:Nat) (h:∀ s ∈ l,s.length≤n):cnt (.sl .str) l≤l.length * (n+1):=by
 show l.length+(l.map fun s:List UInt8=>s.length).sum≤_
 induction l with
 | nil=>simp
 | cons a l ih=>
  have h1:=h a (B5 ..)
  have h2:=ih fun s hs=>h s (Bt _ hs)
  simp only[B1,BE,Ad,Nat.add_mul] at h2 ⊢
  omega
theorem A3G:∀ (l:List (List UInt8)),∀ s ∈ wU l,s.length=32
 | [],s,h=>by cases h
 | [_],s,h=>by cases h
 | a :: b :: r,s,h=>by
  rcases AO.1 h with rfl|h
  ·unfold A5l;rw[Am4]
  ·exact A3G r s h
theorem A6N (l:List (List UInt8)):(A4z l).length≤32:=by
 unfold A4z
 rw[Ag]
 cases hg:(wU (wU (wU (wU (tB l)))))[0]? with
 | none=>decide
 | some s=>exact Nat.le_of_eq (A3G _ s (List.mem_of_getElem? hg))
theorem A8k (key b t r:List UInt8) (S:List (List UInt8)):cnt sH (((key,((0,(0,(0,(0,(b,(t,(r,()))))))),((S,([],())),(true,(false,()))))),((S,([],())),([],([],([],(true,())))))):iW) =
 (key.length+((0+(0+(0+(0+(b.length+(t.length+(r.length+0)))))))+((cnt (.sl .str) S+(0+0))+(0+(0+0)))))+((cnt (.sl .str) S+(0+0))+(0+(0+(0+(0+0))))):=rfl
theorem A73 {key:List UInt8} {l:List Int} (h:dI key l=0):cnt sH (A0a key l)≤1048576:=by
 obtain⟨h1,h2,h3,h4⟩:=A7Q h
 obtain⟨s1,s2,s3,s4⟩:=Au7 h
 unfold A0a newS
 rw[A8k]
 generalize A2t key l=S at s3 s4
 have hc:=BR0 (S++Aa 24 []) 700 fun s hs=>by
  rcases Bo.1 hs with hs|hs
  ·exact s4 s hs
  ·rw[(Ba.1 hs).2];decide
 have hl:(S++Aa 24 []).length=40:=by rw[Ae,s3,An]
 rw[hl] at hc
 have hr:=A6N S
 have hd:=Am4 A9D
 generalize cnt (.sl .str) (S++Aa 24 [])=c at hc
 omega
end Go.Rf.S

end
section
namespace Go.Rf.S
set_option maxRecDepth 100000
def iS (s:Int):Int:=AA (AC .i64 (AC .i64 (1103515245 * s)+12345)) 2147483648
def iD (s:Int):Int:=AA (AC .i64 (Bg (iS s) 65536)) 8
def iR:Nat→Int→List Int→List Int
 | 0,_,o=>o
 | n+1,s,o=>iR n (iS s) (o++[iD s])
theorem A65:bO R 1 12=some (iR 12 1 [],()):=by
 have h:∀ (n i:Nat) (s:Int) (o:List Int),i+n=12→o.length≤i→nC R L s o 12 (i:Int)=some (iR n s o,()):=by
  intro n
  induction n with
  | zero=>
   intro i s o hi ho
   rw[show nC R L s o 12 (i:Nat)=_ from round (by kernel_rfl) (AY7 R L s o 12 (i:Nat)),dF (show ¬ ((i:Nat):Int) < 12 by omega)];rfl
  | succ n ih=>
   intro i s o hi ho
   rw[show nC R L s o 12 (i:Nat)=_ from round (by kernel_rfl) (AY7 R L s o 12 (i:Nat)),dT (show ((i:Nat):Int) < 12 by omega),zB (by omega),wC (by simp only[Ad,Af];omega)]
   exact ih (i+1) (iS s) (o++[iD s]) (by omega) (by rw[Ae,AF];omega)
 rw[show bO R 1 12=_ from call (A5f R L 1 12)]
 exact h 12 0 1 [] rfl (Ao _)
def sS (s:Int):Int:=yU .and .i64 (AC .i64 (AC .i64 (1103515245 * s)+12345)) 2147483647
def sD (s:Int):Int:=yU .and .i64 (AX (sS s) (2 ^ (A0 (Aq 16) (Go.IntKind.bits .i64)))) 7
def sR:Nat→Int→List Int→List Int
 | 0,_,o=>o
 | n+1,s,o=>sR n (sS s) (o++[sD s])
theorem A6F:kI R 1 12=some (sR 12 1 [],()):=by
 have h:∀ (n i:Nat) (s:Int) (o:List Int),i+n=12→o.length≤i→rN R L s 12 o (i:Int)=some (sR n s o,()):=by
  intro n
  induction n with
  | zero=>
   intro i s o hi ho
   rw[show rN R L s 12 o (i:Nat)=_ from round (by kernel_rfl) (AD6 R L s 12 o (i:Nat)),dF (show ¬ ((i:Nat):Int) < 12 by omega)];rfl
  | succ n ih=>
   intro i s o hi ho
   rw[show rN R L s 12 o (i:Nat)=_ from round (by kernel_rfl) (AD6 R L s 12 o (i:Nat)),dT (show ((i:Nat):Int) < 12 by omega),zB (by omega),wC (by simp only[Ad,Af];omega)]
   exact ih (i+1) (sS s) (o++[sD s]) (by omega) (by rw[Ae,AF];omega)
 rw[show kI R 1 12=_ from call (A0P R L 1 12)]
 exact h 12 0 1 [] rfl (Ao _)
def pl:List Int:=iR 12 1 []
theorem A92:sR 12 1 []=pl:=by decide +kernel
def bR:Nat→Nat→List Int→List Int
 | 0,_,o=>o
 | n+1,i,o=>bR n (i+1) (o++[AC .u8 (i:Int)])
def pk:List UInt8:=A9 (fun n:Int=>Ax n.toNat) (bR 32 0 [])
theorem pw0:dI pk pl=0:=by decide +kernel
theorem A86:pk.length=32∧pl.length=12:=by decide +kernel
theorem A9n:qL R=some (A0a pk pl,()):=by
 have h:∀ (v:iW) (n i:Nat) (o:List Int),i+n=32→o.length≤i→tP R L v o (i:Int)=(bO R 1 12).bind fun r0=>(nG R (A9 (fun n:Int=>Ax n.toNat) (bR n i o)) r0.1).bind fun r1=>some (r1.1,()):=by
  intro v n
  induction n with
  | zero=>
   intro i o hi ho
   rw[show tP R L v o (i:Nat)=_ from round (by kernel_rfl) (cP R L v o (i:Nat)),dF (show ¬ ((i:Nat):Int) < 32 by omega)];rfl
  | succ n ih=>
   intro i o hi ho
   rw[show tP R L v o (i:Nat)=_ from round (by kernel_rfl) (cP R L v o (i:Nat)),dT (show ((i:Nat):Int) < 32 by omega),zB (by omega),wC (by simp only[Ad,Af];omega)]
   exact ih (i+1) (o++[AC .u8 (i:Int)]) (by omega) (by rw[Ae,AF];omega)
 rw[show qL R=_ from call (Ag3 R L)]
 refine (h _ 32 0 [] rfl (Ao _)).trans ?_
 rw[A65]
 have e:=A4S pk pl (by rw[A86.1];decide) (by rw[A86.2];decide)
 rw[A7 pw0] at e
 show (nG R pk pl).bind _=_
 rw[e];rfl
theorem BC6:oG R=some (A0a pk pl,()):=by
 have h:∀ (v:iW) (n i:Nat) (o:List Int),i+n=32→o.length≤i→tR R L v o (i:Int)=(kI R 1 12).bind fun r0=>(jV R (A9 (fun n:Int=>Ax n.toNat) (bR n i o)) r0.1).bind fun r1=>(lC R r1.1).bind fun r2=>some (r2.1,()):=by
  intro v n
  induction n with
  | zero=>
   intro i o hi ho
   rw[show tR R L v o (i:Nat)=_ from round (by kernel_rfl) (cV R L v o (i:Nat)),dF (show ¬ ((i:Nat):Int) < 32 by omega)];rfl
  | succ n ih=>
   intro i o hi ho
   rw[show tR R L v o (i:Nat)=_ from round (by kernel_rfl) (cV R L v o (i:Nat)),dT (show ((i:Nat):Int) < 32 by omega),zB (by omega),wC (by simp only[Ad,Af];omega)]
   exact ih (i+1) (o++[AC .u8 (i:Int)]) (by omega) (by rw[Ae,AF];omega)
 rw[show oG R=_ from call (Ae6 R L)]
 refine (h _ 32 0 [] rfl (Ao _)).trans ?_
 rw[A6F,A92]
 show (jV R pk pl).bind (fun r1=>(lC R r1.1).bind fun r2=>some (r2.1,()))=_
 have h0:=pw0
 generalize pk=key at h0 ⊢
 generalize pl=l at h0 ⊢
 obtain⟨s1,s2,s3,s4⟩:=Au7 h0
 have n1:jV R key l=some (A0a key l,()):=by
  rw[show jV R key l=_ from call (A4g R L key l),BG9 key l h0];rfl
 have od:=(A6C (A2t key l++Aa 24 [],([],())) (by rw[Ae,s3,An];decide) (Ar _)).2
 have os:fY R (newS key l)=some (newS key l,()):=by
  rw[show fY R (newS key l)=_ from call (A4r R L (newS key l))]
  show (lL R (A2t key l++Aa 24 [],([],()))).bind _=_
  rw[od];rfl
 have n2:lC R (A0a key l)=some (A0a key l,()):=by
  rw[show lC R (A0a key l)=_ from call (A4o R L (A0a key l))]
  show (fY R (newS key l)).bind (fun r0=>(lL R (A2t key l++Aa 24 [],([],()))).bind _)=_
  rw[os,od]
  show jE R L (A0a key l) _ [] 0=_
  rw[show jE R L (A0a key l) _ [] 0=_ from round (by kernel_rfl) (A0K R L (A0a key l) _ [] 0)]
  show nT R L (A0a key l) _ [] 0=_
  rw[show nT R L (A0a key l) _ [] 0=_ from round (by kernel_rfl) (A0E R L (A0a key l) _ [] 0)]
  rfl
 rw[n1]
 show (lC R (A0a key l)).bind _=_
 rw[n2];rfl
theorem law_PlainWorld:pM R=some (true,()):=by
 rw[show pM R=_ from call (bY R L)]
 obtain⟨W,hW,e1,e2⟩:∃ W:iW,cnt sH W≤1048576∧qL R=some (W,())∧oG R=some (W,()):=⟨_,A73 pw0,A9n,BC6⟩
 obtain⟨k2,W',m2,m3⟩:=BS1 W 1 hW (by decide)
 have m2:pX R W 1=_:=m2
 have m3:rZ R W' 1=_:=m3
 simp (disch:=omega) only[st,dF,e1,e2,A77 W hW,m2,m3,Al,A8]
end Go.Rf.S

end
