/- What the program computes, in plain words: part 7. No condition. -/
import Derived.Test.YtcikhcfofnlegaaGreatHol1
import Derived.Test.YtcikhcfofnlegaaGreatHol3
open Option renaming bind_some->Aa,getD_some->AV
open List renaming length_append->Ab,drop_eq_nil_of_le->Ac,length_cons->Ae,length_nil->Ak,getD_eq_getElem?_getD->Al,append_assoc->An,mem_cons_self->Ar,append_nil->As,getElem?_eq_getElem->At,mem_cons_of_mem->Au,drop_zero->Av,length_take->Ax,mem_singleton->A0,nil_append->A2,mem_append->A3,length_drop->A6,mem_cons->A7,flatten_cons->AB,all_eq_true->AD,mem_of_mem_drop->AF,mem_of_mem_take->AG,cons_append->AL,length_set->AM,reverse_append->AP,getElem_of_mem->AQ,take_add_one->AR,take_length->AU,length_map->AW,foldl_cons->AX,take_zero->AZ,replicate->A',foldl_nil->Ba,any_cons->Bb
open Bool renaming not_true->Ad,and_eq_true->Ah,true_and->A4,not_false->AA,false_or->AE,and_true->AK,true_or->AS,not_eq_true'->AT
open Int renaming eq_ofNat_of_zero_le->Af,tdiv->Bc
open Go.IntKind renaming wrap->Ag,wrap->AI,bits->AY
open _root_ renaming cond_false->Ai,cond_true->Aj,decide_eq_false->Am,decide_eq_true->Aq,if_pos->Aw,if_neg->Az,decide_eq_true_eq->A5,decide_eq_decide->AC
open Nat renaming le_refl->Ao,zero_le->Ap,pow_succ->A9,le_trans->AJ,not_lt_zero->AN,pow_le_pow_right->AO
open UInt8 renaming toNat_ofNat'->Ay,ofNat->AH
open Eq renaming trans->A1
open List.cons renaming injEq->A8
set_option linter.unusedVariables false
set_option linter.unusedSimpArgs false
section
namespace Go.Rf.S
set_option maxRecDepth 100000
theorem A8v {α:Type} (F:Int→Option (Bool × Unit)) (v:List α) (d:α) (p:α→Bool)
  (stop:F (v.length:Nat)=some (false,()))
  (step:∀ (i:Nat),i < v.length→F i=cond (p (v.getD i d)) (some (true,())) (F ((i+1:Nat):Int))):
  ∀ (n i:Nat),v.length - i=n→i≤v.length→F i=some ((v.drop i).any p,())
 | 0,i,hn,hi=>by
  have:i=v.length:=by omega
  subst this
  rw[stop,Ac (Ao _)];rfl
 | n+1,i,hn,hi=>by
  rw[step i (by omega),yH (d:=d) (by omega),Bb,A8v F v d p stop step n (i+1) (by omega) (by omega)]
  cases p (v.getD i d)<;>rfl
theorem BV6:∀ (f a:Nat) (acc:List Int),a+2≤2 ^ f→acc.length+f≤60→iM R L acc (a:Int)=some (A6k f a++acc,())
 | 0,a,acc,h,_=>by rw[Nat.pow_zero] at h;omega
 | f+1,a,acc,h,hl=>by
  rw[A9] at h
  rw[show iM R L acc (a:Int)=_ from round (by kernel_rfl) (A4N R L acc (a:Int))]
  unfold A6k
  by_cases h0:a=0
  ·subst h0
   simp (disch:=omega) only[st]
   rfl
  ·have ha:a≤4611686018427387904:=by
    have:(2:Nat) ^ f≤2 ^ 61:=AO (by decide) (by omega)
    omega
   have e:Ag .i64 (Bc (Ag .i64 ((a:Int) - 1)) 2)=(((a - 1) / 2:Nat):Int):=by
    rw[zI (n:=(a:Int) - 1) (by omega) (by omega),show (a:Int) - 1=((a - 1:Nat):Int) by omega]
    show Ag .i64 (((a - 1) / 2:Nat):Int)=_
    rw[zI (by omega) (by omega)]
   rw[Az h0,e]
   simp (disch:=omega) only[st]
   rw[BV6 f ((a - 1) / 2) _ (by omega) (by simp only[Ab,Ae,Ak];omega),An]
theorem B2R {l:Int} (h:inB l 0 7=true):AL8 R l=some (AP1 l,()):=by
 have hb:=xR h
 have:=BV6 4 (7+l.toNat) [] (by omega) (by simp)
 rw[As] at this
 rw[show AL8 R l=_ from call (A7k R L l),show Ag .i64 (7+l)=((7+l.toNat:Nat):Int) by rw[zI (by omega) (by omega)];omega]
 exact this
theorem A1u:∀ f a,(A6k f a).length≤f
 | 0,_=>Ao _
 | f+1,a=>by
  unfold A6k
  split
  ·simp
  ·have:=A1u f ((a - 1) / 2)
   rw[Ab];simp only[Ae,Ak];omega
theorem B4l (i:Nat) {l:Int} (h:inB l 0 7=true):Aj9 R (i:Int) l=some (onB i l,()):=by
 have hl:(AP1 l).length≤4:=A1u _ _
 rw[show Aj9 R (i:Int) l=_ from call (Bh1 R L (i:Int) l),B2R h]
 exact A8v (fun k=>mL R L (i:Int) (AP1 l) k) (AP1 l) 0 (fun x=>decide (x=(i:Int))) (by
   show mL R L (i:Int) (AP1 l) ((AP1 l).length:Nat)=_
   rw[show mL R L (i:Int) (AP1 l) ((AP1 l).length:Nat)=_ from round (by kernel_rfl) (A1p R L (i:Int) (AP1 l) ((AP1 l).length:Nat)),jG (Ao _)];rfl) (fun k hk=>by
   show mL R L (i:Int) (AP1 l) (k:Nat)=_
   rw[show mL R L (i:Int) (AP1 l) (k:Nat)=_ from round (by kernel_rfl) (A1p R L (i:Int) (AP1 l) (k:Nat)),lZ hk,zB (by omega)]
   simp (disch:=omega) only[st,yU]) _ 0 rfl (Ap _)
theorem B4S (l:List Int) (n:Int) (hl:l.length≤1048576):AU1 R l n=some (AS3 l n,()):=by
 rw[show AU1 R l n=_ from call (Bb8 R L l n)]
 exact A8v (fun k=>mH R L l n k) l 0 (fun x=>decide (x=n)) (by
   show mH R L l n (l.length:Nat)=_
   rw[show mH R L l n (l.length:Nat)=_ from round (by kernel_rfl) (A1F R L l n (l.length:Nat)),jG (Ao _)];rfl) (fun k hk=>by
   show mH R L l n (k:Nat)=_
   rw[show mH R L l n (k:Nat)=_ from round (by kernel_rfl) (A1F R L l n (k:Nat)),lZ hk,zB (by omega)]
   simp (disch:=omega) only[st,yU]) _ 0 rfl (Ap _)
abbrev DO:Type:=List Int × (List DB × (List (List DB) × Unit))
theorem Be2 (o:DO) (b:DB) (seen:List Int) (ho:o.1.length=12) (hs:seen.length≤1048576):dX R o b seen=some (A4h o.1 b&&!AS3 seen b.1,()):=by
 rw[show dX R o b seen=_ from call (A6W R L o b seen),uB]
 unfold A4h
 cases h1:inB b.1 0 11 with
 | false=>rw[show inR b.1 0 11=false from h1];rfl
 | true=>
  have hb:=xR h1
  rw[show inR b.1 0 11=true from h1]
  simp (disch:=omega) only[st,yU,uB,B4S seen b.1 hs]
  rw[show inB b.2.2.1 0 999999=inR b.2.2.1 0 999999 from rfl]
  cases decide (o.1.getD b.1.toNat 0=b.2.1)<;>cases inR b.2.2.1 0 999999<;>rfl
theorem Bg7 (o:DO) (i:Nat) (ho:o.1.length=12) (hp:o.1.all cM=true) (hi:i < o.2.2.1.length) (hk:(o.2.2.1.getD i []).length≤2) (hbl:o.2.2.1.length=15):∀ (n k:Nat) (seen:List Int),(o.2.2.1.getD i []).length - k=n→k≤(o.2.2.1.getD i []).length→seen.length+3≤1048576+k →
  jY R L o seen (i:Int) (k:Int)=cond (Bi0 o.1 i seen ((o.2.2.1.getD i []).drop k)) (lA R L o (seen++ids ((o.2.2.1.getD i []).drop k)) ((i+1:Nat):Int)) (some (false,()))
 | 0,k,seen,hn,hkl,hs=>by
  rw[show jY R L o seen (i:Int) (k:Int)=_ from round (by kernel_rfl) (Ax9 R L o seen (i:Int) (k:Int)),Ac (by omega),zB (by omega)]
  simp (disch:=omega) only[st,dF]
  rw[show ids []=[] from rfl,As];rfl
 | n+1,k,seen,hn,hkl,hs=>by
  have hlt:k < (o.2.2.1.getD i []).length:=by omega
  rw[show jY R L o seen (i:Int) (k:Int)=_ from round (by kernel_rfl) (Ax9 R L o seen (i:Int) (k:Int)),yH (d:=(0,(0,(0,())))) hlt,zB (i:=k) (by omega)]
  generalize hB:(o.2.2.1.getD i []).getD k (0,(0,(0,())))=b
  simp (disch:=omega) only[st,dT,hB,Be2 o b seen ho (by omega)]
  rw[BQ6]
  cases h1:(A4h o.1 b&&!AS3 seen b.1) with
  | false=>rfl
  | true=>
   have hb:inB b.2.1 0 7=true:=by
    have:=h1
    simp only[Ah] at this
    have:=A83 ho hp this.1
    unfold Az1 at this
    simp only[Ah] at this
    exact this.2.1
   rw[B4l i hb]
   simp only[Aa]
   cases onB i b.2.1 with
   | false=>rfl
   | true=>
    have ih:=Bg7 o i ho hp hi hk hbl n (k+1) (seen++[b.1]) (by omega) (by omega) (by rw[Ab];simp only[Ae,Ak];omega)
    simp (disch:=omega) only[st,Ad,ih]
    rw[show ids (b :: (o.2.2.1.getD i []).drop (k+1))=[b.1]++ids ((o.2.2.1.getD i []).drop (k+1)) from rfl,An];rfl
theorem BZ2 (o:DO) (ho:o.1.length=12) (hp:o.1.all cM=true) (hbl:o.2.2.1.length=15):∀ (n i:Nat) (seen:List Int),15 - i=n→i≤15→seen.length≤1000+2 * i→lA R L o seen (i:Int)=some (bkS o.1 i seen (o.2.2.1.drop i),())
 | 0,i,seen,hn,hi,hs=>by
  rw[show lA R L o seen (i:Int)=_ from round (by kernel_rfl) (Av1 R L o seen (i:Int)),dF (show ¬ (i:Int) < 15 by omega),Ac (by omega)];rfl
 | n+1,i,seen,hn,hi,hs=>by
  have hlt:i < o.2.2.1.length:=by omega
  rw[show lA R L o seen (i:Int)=_ from round (by kernel_rfl) (Av1 R L o seen (i:Int)),dT (show (i:Int) < 15 by omega),yH (d:=[]) hlt]
  rw[A9o]
  simp (disch:=omega) only[st]
  by_cases hk:(o.2.2.1.getD i []).length≤2
  ·rw[dF (show ¬ (2:Int) < ((o.2.2.1.getD i []).length:Int) by omega),dT hk]
   have e:=Bg7 o i ho hp hlt hk hbl _ 0 seen rfl (Ap _) (by omega)
   rw[Av] at e
   simp only[Ai,A4]
   refine A1 e ?_
   cases Bi0 o.1 i seen (o.2.2.1.getD i []) with
   | false=>rfl
   | true=>
    rw[Aj,BZ2 o ho hp hbl n (i+1) _ (by omega) (by omega) (by rw[Ab,show (ids (o.2.2.1.getD i [])).length=(o.2.2.1.getD i []).length from AW _];omega)];rfl
  ·rw[dT (show (2:Int) < ((o.2.2.1.getD i []).length:Int) by omega),dF hk];rfl
theorem BS7 (o:DO) (ho:o.1.length=12) (hp:o.1.all cM=true) (hbl:o.2.2.1.length=15) (hst:o.2.1.length≤12):∀ (n i:Nat) (seen:List Int),o.2.1.length - i=n→i≤o.2.1.length→seen.length=i →
  jP R L o seen (i:Int)=some (Ay7 o.1 seen (o.2.1.drop i)&&bkS o.1 0 (seen++ids (o.2.1.drop i)) o.2.2.1,())
 | 0,i,seen,hn,hi,hs=>by
  rw[show jP R L o seen (i:Int)=_ from round (by kernel_rfl) (Ay3 R L o seen (i:Int)),jG (by omega),Ac (by omega)]
  have:=BZ2 o ho hp hbl 15 0 seen rfl (by omega) (by omega)
  rw[show ids []=[] from rfl,As]
  exact this
 | n+1,i,seen,hn,hi,hs=>by
  have hlt:i < o.2.1.length:=by omega
  rw[show jP R L o seen (i:Int)=_ from round (by kernel_rfl) (Ay3 R L o seen (i:Int)),lZ hlt,yH (d:=(0,(0,(0,())))) hlt,zB (i:=i) (by omega)]
  generalize hB:o.2.1.getD i (0,(0,(0,())))=b
  have ih:=BS7 o ho hp hbl hst n (i+1) (seen++[b.1]) (by omega) (by omega) (by rw[Ab,hs];rfl)
  simp (disch:=omega) only[st,hB,Be2 o b seen ho (by omega),ih]
  rw[Bg5]
  cases (A4h o.1 b&&!AS3 seen b.1) with
  | false=>rfl
  | true=>
   rw[show ids (b :: o.2.1.drop (i+1))=[b.1]++ids (o.2.1.drop (i+1)) from rfl,← An,A4];rfl
theorem B2i (o:DO) (h1:o.1.length≤4096):AV2 R o=some (Az0 o,()):=by
 rw[show AV2 R o=_ from call (BG7 R L o),Bl5 o.1 (by omega)]
 unfold Az0
 rw[show o.1.all A5X=o.1.all cM from rfl]
 by_cases a1:o.1.length=12
 ·rw[dT a1]
  simp (disch:=omega) only[st,Ad]
  cases hp:o.1.all cM with
  | false=>rfl
  | true=>
   by_cases a2:o.2.1.length≤12
   ·rw[dT a2,dF (show ¬ (12:Int) < (o.2.1.length:Int) by omega)]
    by_cases a3:o.2.2.1.length=15
    ·have:=BS7 o a1 hp a3 a2 _ 0 [] rfl (Ap _) rfl
     rw[dT a3]
     simp (disch:=omega) only[st,Ad]
     exact this
    ·rw[dF a3]
     simp (disch:=omega) only[st,Ad,AA]
     rfl
   ·rw[dF a2,dT (show (12:Int) < (o.2.1.length:Int) by omega)];rfl
 ·rw[dF a1]
  simp (disch:=omega) only[st,AA]
  rfl
theorem Bl8:∀ (l:List Int) (i:Nat),i < l.length→l.take (i+1)=l.take i++[l.getD i 0]:=fun l i h=>by
 rw[AR,Al,At h];rfl
theorem By4 (e:DE) (he:e.1.length≤1000):∀ (n i:Nat),e.1.length - i=n→i≤e.1.length→mJ R L e (i:Int)=some (B1h (e.1.take i) (e.1.drop i),())
 | 0,i,hn,hi=>by
  rw[show mJ R L e (i:Int)=_ from round (by kernel_rfl) (A1Z R L e (i:Int)),jG (i:=i) (n:=e.1.length) (by omega),(Ac (by omega):e.1.drop i=[])];rfl
 | n+1,i,hn,hi=>by
  have hlt:i < e.1.length:=by omega
  rw[show mJ R L e (i:Int)=_ from round (by kernel_rfl) (A1Z R L e (i:Int)),lZ hlt,yH (d:=0) hlt,zB (by omega),uB,By4 e he n (i+1) (by omega) (by omega),Bl8 e.1 i hlt,tn]
  generalize e.1.getD i 0=k
  simp (disch:=omega) only[st,Av,B4S (e.1.take i) k (by rw[Ax];omega)]
  rw[show inB k 0 9999=inR k 0 9999 from rfl]
  rw[Bc1]
  cases inR k 0 9999 with
  | false=>rfl
  | true=>
   cases decide (0 < k) with
   | false=>rfl
   | true=>cases AS3 (e.1.take i) k<;>rfl
theorem B16 (e:DE) (h:e.1.length≤1048576) (h1:e.2.1.1.length≤4096):AT3 R e=some (AZ8 e,()):=by
 rw[show AT3 R e=_ from call (Ba8 R L e),B2i e.2.1 h1]
 unfold AZ8
 by_cases a1:e.1.length=11
 ·rw[dT a1]
  have e0:=By4 e (by omega) _ 0 rfl (Ap _)
  rw[AZ,Av,A8X e.1 [] [] (fun _ _=>rfl)] at e0
  have e0:mJ R L e 0=_:=e0
  simp (disch:=omega) only[st,Ad,e0]
  cases Az0 e.2.1<;>cases A4M [] e.1<;>rfl
 ·rw[dF a1]
  simp (disch:=omega) only[st,AA]
  cases A4M [] e.1<;>rfl
theorem B3k (r:DR) (hr:r.2.1.length≤1048576):nP R r=some (AO7 r,()):=by
 rw[show nP R r=_ from call (AU5 R L r),uB]
 unfold AO7
 have h:=AL5 (fun i=>yB R L r r false i) r.2.1 0 (fun n=>inB n 0 999999) true (by
  show yB R L r r false (r.2.1.length:Nat)=_
  rw[show yB R L r r false (r.2.1.length:Nat)=_ from round (by kernel_rfl) (jV R L r r false (r.2.1.length:Nat)),jG (Ao _)];rfl) (fun i hlt=>by
  show yB R L r r false (i:Nat)=_
  rw[show yB R L r r false (i:Nat)=_ from round (by kernel_rfl) (jV R L r r false (i:Nat)),lZ hlt,nn,tn,zO hlt,uB,zB (by omega)]
  simp only[Aj,Aa]
  cases inB (r.2.1.getD i 0) 0 999999<;>rfl) _ 0 rfl (by omega)
 have h:yB R L r r false 0=some (r.2.1.all (fun n=>inB n 0 999999)&&true,()):=h
 simp only[Aa,h,yU,AK]
 cases inB r.1 0 19 with
 | false=>rfl
 | true=>
  by_cases a:r.2.1.length≤32
  ·rw[dT a,dF (show ¬ (32:Int) < (r.2.1.length:Int) by omega)]
   by_cases z:r.2.1.length=0
   ·rw[dT z,dF (show ¬ (0:Int) < (r.2.1.length:Int) by omega)]
    cases decide (r.1=0)<;>rfl
   ·rw[dF z,dT (show (0:Int) < (r.2.1.length:Int) by omega)]
    cases decide (r.1=0)<;>rfl
  ·rw[dF a,dT (show (32:Int) < (r.2.1.length:Int) by omega)];rfl
theorem B1x (l:List DR) (hl:l.length≤1048576) (hr:∀ r ∈ l,r.2.1.length≤1048576):nE R l=some (mG l,()):=by
 have h:=AL5 (fun i=>xG R L l false i) l (0,([],())) AO7 (decide (l.length≤2)) (by
  show xG R L l false (l.length:Nat)=_
  rw[show xG R L l false (l.length:Nat)=_ from round (by kernel_rfl) (iZ R L l false (l.length:Nat)),jG (Ao _),show decide ((l.length:Int)≤2)=decide (l.length≤2) from AC.2 (by omega)];rfl) (fun i hlt=>by
  show xG R L l false (i:Nat)=_
  rw[show xG R L l false (i:Nat)=_ from round (by kernel_rfl) (iZ R L l false (i:Nat)),lZ hlt,nn,tn,zO hlt,B3k _ (hr _ (xK hlt)),zB (by omega)]
  simp only[Aj,Aa]
  cases AO7 (l.getD i (0,([],())))<;>rfl) _ 0 rfl (by omega)
 unfold mG
 rw[Bool.and_comm]
 exact A1 (call (Aa8 R L l):nE R l=_) h
theorem B2n (l:List DB) (hl:l.length≤1048576):bK R l=some (A5r l,()):=by
 have h:=AL5 (fun i=>sQ R L l i) l (0,(0,(0,()))) Az1 (decide (l.length≤2)) (by
  show sQ R L l (l.length:Nat)=_
  rw[show sQ R L l (l.length:Nat)=_ from round (by kernel_rfl) (AS0 R L l (l.length:Nat)),jG (Ao _),show decide ((l.length:Int)≤2)=decide (l.length≤2) from AC.2 (by omega)];rfl) (fun i hlt=>by
  show sQ R L l (i:Nat)=_
  rw[show sQ R L l (i:Nat)=_ from round (by kernel_rfl) (AS0 R L l (i:Nat)),lZ hlt,nn,tn,zO hlt,zB (by omega)]
  simp only[Aj,Aa,uB]
  generalize l.getD i (0,(0,(0,())))=b
  unfold Az1
  rw[show inR b.1 0 11=inB b.1 0 11 from rfl,show inR b.2.1 0 7=inB b.2.1 0 7 from rfl,show inR b.2.2.1 0 999999=inB b.2.2.1 0 999999 from rfl]
  cases inB b.1 0 11<;>cases inB b.2.1 0 7<;>cases inB b.2.2.1 0 999999<;>rfl) _ 0 rfl (by omega)
 exact A1 (call (A4b R L l):bK R l=_) h
theorem B0m (l:List TR) (h:mG l=true):l.all B0r=true:=by
 unfold mG at h
 simp only[Ah] at h
 rw[AD]
 intro r hr
 have:=AD.1 h.2 r hr
 unfold AO7 at this
 simp only[Ah] at this
 unfold B0r
 rw[show inR r.1 0 19=true from this.1,show (r.2.1.all fun v=>inR v 0 999999)=true from this.2.2.2];rfl
theorem B3o (r:DR):gJ R r=some (AO7 r,()):=by
 rw[show gJ R r=_ from call (Av0 R L r),show aD R r.1=some (inB r.1 0 19,()) by rw[show aD R r.1=_ from call (A2m R L r.1),uZ];rfl]
 unfold AO7
 simp only[Aa,yU]
 cases inB r.1 0 19 with
 | false=>rfl
 | true=>
  by_cases a:r.2.1.length≤32
  ·rw[dT a,dT (show (r.2.1.length:Int)≤32 by omega),iB r.2.1 _ (fun n=>inB n 0 999999) (by omega) (fun s _=>by rw[Au2,aV];rfl),show decide ((r.2.1.length:Int)=0)=decide (r.2.1.length=0) from AC.2 (by omega)]
   simp only[Aa,Aj]
   cases (r.2.1.all fun n=>inB n 0 999999)<;>cases decide (r.1=0)<;>cases decide (r.2.1.length=0)<;>rfl
  ·rw[dF a,dF (show ¬ (r.2.1.length:Int)≤32 by omega)];rfl
theorem B2z (l:List DR):nF R l=some (mG l,()):=by
 rw[show nF R l=_ from call (Ab7 R L l)]
 unfold mG
 by_cases a:l.length≤2
 ·rw[dT a,dT (show (l.length:Int)≤2 by omega),eD l _ AO7 (by omega) (fun s _=>by rw[Ak1,B3o];rfl)]
  rfl
 ·rw[dF a,dF (show ¬ (l.length:Int)≤2 by omega)];rfl
end Go.Rf.S

end
section
namespace Go.Rf.S
set_option maxRecDepth 100000
theorem B3t (l:List Int) (hl:l.length≤1048576):kZ R l=some (l.reverse,()):=
 (BL6 (f:=366) rfl _).trans (A5N (E:=EE) (f:=366) (x:=(l.reverse,())) rfl (B1z (E:=EE) rfl l hl))
theorem BC4 (l:List (List DB)) (hl:l.length≤1048576) (hf:l.flatten.length≤1048576):oD R l=some (l.flatten,()):=
 (BL6 (f:=303) rfl _).trans (A5N (E:=EE) (f:=303) (x:=(l.flatten,())) rfl (Bh3 (E:=EE) rfl l hl hf))
theorem BR6:∀ (f a:Nat) (acc:List Int),a+2≤2 ^ f→acc.length+f≤60→fN R L acc (a:Int)=some (A6k f a++acc.reverse,())
 | 0,a,acc,h,_=>by rw[Nat.pow_zero] at h;omega
 | f+1,a,acc,h,hl=>by
  rw[A9] at h
  rw[show fN R L acc (a:Int)=_ from round (by kernel_rfl) (A5v R L acc (a:Int))]
  unfold A6k
  by_cases h0:a=0
  ·subst h0
   simp (disch:=omega) only[st,B3t (acc++[((0:Nat):Int)]) (by rw[Ab];simp only[Ae,Ak];omega)]
   rw[AP];rfl
  ·have ha:a≤4611686018427387904:=by
    have:(2:Nat) ^ f≤2 ^ 61:=AO (by decide) (by omega)
    omega
   have e:Ag .i64 (Bc (Ag .i64 ((a:Int) - 1)) 2)=(((a - 1) / 2:Nat):Int):=by
    rw[zI (n:=(a:Int) - 1) (by omega) (by omega),show (a:Int) - 1=((a - 1:Nat):Int) by omega]
    show Ag .i64 (((a - 1) / 2:Nat):Int)=_
    rw[zI (by omega) (by omega)]
   rw[Az h0,e]
   simp (disch:=omega) only[st]
   rw[BR6 f ((a - 1) / 2) _ (by omega) (by simp only[Ab,Ae,Ak];omega),AP,An]
   rfl
theorem B2j {l:Int} (h:inB l 0 7=true):AY2 R l=some (AP1 l,()):=by
 have hb:=xR h
 have:=BR6 4 (7+l.toNat) [] (by omega) (by simp)
 rw[List.reverse_nil,As] at this
 rw[show AY2 R l=_ from call (BN5 R L l),show Ag .i64 (7+l)=((7+l.toNat:Nat):Int) by rw[zI (by omega) (by omega)];omega]
 exact this
theorem B09 (l:List Int) (n:Int) (hl:l.length≤1000):∃ k:Int,rU R l n=some (k,())∧decide ((0:Int)≤k)=l.any fun x=>decide (x=n):=by
 have h:∀ (m i:Nat),l.length - i=m→i≤l.length→∃ k:Int,wC R L l n (l.length:Int) (i:Int)=some (k,())∧decide ((0:Int)≤k)=(l.drop i).any fun x=>decide (x=n):=by
  intro m
  induction m with
  | zero=>
   intro i hm hi
   rw[show wC R L l n (l.length:Int) (i:Int)=_ from round (by kernel_rfl) (kN R L l n (l.length:Int) (i:Int)),jG (by omega),Ac (by omega)]
   exact⟨-1,rfl,rfl⟩
  | succ m ih=>
   intro i hm hi
   have hlt:i < l.length:=by omega
   obtain⟨k,e1,e2⟩:=ih (i+1) (by omega) (by omega)
   rw[show wC R L l n (l.length:Int) (i:Int)=_ from round (by kernel_rfl) (kN R L l n (l.length:Int) (i:Int)),lZ hlt,yH (d:=0) hlt,Bb,zB (by omega)]
   simp (disch:=omega) only[st,e1,yU]
   by_cases hx:l.getD i 0=n
   ·rw[dT hx.symm,dT hx]
    exact⟨(i:Int),rfl,by rw[AS];exact dT (by omega)⟩
   ·rw[dF (fun h=>hx h.symm),dF hx]
    exact⟨k,rfl,by rw[AE];exact e2⟩
 obtain⟨k,e1,e2⟩:=h _ 0 rfl (Ap _)
 exact⟨k,A1 (call (AE2 R L l n):rU R l n=_) e1,e2⟩
theorem B4a (i:Nat) {l:Int} (h:inB l 0 7=true):cB R (i:Int) l=some (onB i l,()):=by
 obtain⟨k,e1,e2⟩:=B09 (AP1 l) (i:Int) (AJ (A1u _ _) (by decide))
 rw[show cB R (i:Int) l=_ from call (A5P R L (i:Int) l),B2j h]
 simp only[Aa]
 rw[show qU R (AP1 l) (i:Int)=_ from call (bD R L (AP1 l) (i:Int)),e1]
 simp only[Aa]
 rw[e2];rfl
theorem BC6 (n:Int):gF R n=some (cM n,()):=by
 rw[show gF R n=_ from call (A3C R L n),uZ];rfl
theorem Bd2 (b:DB):AN3 R b=some (Az1 b,()):=by
 rw[show AN3 R b=_ from call (A7H R L b),show A0h R b.1=some (inB b.1 0 11,()) by rw[show A0h R b.1=_ from call (Bq1 R L b.1),uZ];rfl,BC6,aV]
 unfold Az1 cM
 rw[show inR b.1 0 11=inB b.1 0 11 from rfl,show inR b.2.2.1 0 999999=inB b.2.2.1 0 999999 from rfl]
 cases inB b.1 0 11<;>cases inR b.2.1 0 7<;>cases inB b.2.2.1 0 999999<;>rfl
theorem Bb0 (l:List DB) (h:l.length≤1099511627776):vF R l=some (l,()):=by
 rw[show vF R l=_ from call (gX R L l)]
 cases l with
 | nil=>exact A22 _
 | cons a l=>show cond (yI (0+(a :: l).length)) (some (a :: l,())) none=_;rw[wF (by omega)];rfl
theorem BP2 (o:DO) (ho:o.1.length=12) (all:List DB) (hal:all.length≤1048576):∀ (n i:Nat) (arr:List Bool),all.length - i=n→i≤all.length→arr.length=12 →
  jI R L o arr all (all.length:Int) (i:Int)=some (Bi1 o.1 arr (all.drop i),())
 | 0,i,arr,hn,hi,ha=>by
  rw[show jI R L o arr all (all.length:Int) (i:Int)=_ from round (by kernel_rfl) (Ax0 R L o arr all (all.length:Int) (i:Int)),jG (by omega),Ac (by omega)];rfl
 | n+1,i,arr,hn,hi,ha=>by
  have hlt:i < all.length:=by omega
  rw[show jI R L o arr all (all.length:Int) (i:Int)=_ from round (by kernel_rfl) (Ax0 R L o arr all (all.length:Int) (i:Int)),lZ hlt,yH (d:=(0,(0,(0,())))) hlt,zB (i:=i) (by omega),tn]
  generalize all.getD i (0,(0,(0,())))=b
  simp (disch:=omega) only[st,Bd2 b]
  have hc:Bi1 o.1 arr (b :: all.drop (i+1))=((Az1 b&&(decide (b.2.1=o.1.getD b.1.toNat 0)&&!arr.getD b.1.toNat false))&&Bi1 o.1 (arr.set b.1.toNat true) (all.drop (i+1))):=rfl
  rw[hc]
  cases h1:Az1 b with
  | false=>rfl
  | true=>
   have hb:0≤b.1∧b.1≤11:=by
    unfold Az1 at h1
    simp only[Ah] at h1
    exact xR h1.1
   have ih:=BP2 o ho all hal n (i+1) (arr.set b.1.toNat true) (by omega) (by omega) (by rw[AM];exact ha)
   simp (disch:=omega) only[st,Ad,yU,ih]
   cases decide (b.2.1=o.1.getD b.1.toNat 0) with
   | false=>rfl
   | true=>cases arr.getD b.1.toNat false<;>rfl
theorem BP9 (o:DO) (ho:o.1.length=12) (hbl:o.2.2.1.length=15) (hf:o.2.1.length+o.2.2.1.flatten.length≤1048576):∀ (n i:Nat),15 - i=n→i≤15 →
  mX R L o o.2.2.1 (o.2.2.1.length:Int) (i:Int)=some (B0j i (o.2.2.1.drop i)&&Bi1 o.1 (A' 12 false) (o.2.1++o.2.2.1.flatten),())
 | 0,i,hn,hi=>by
  rw[show mX R L o o.2.2.1 (o.2.2.1.length:Int) (i:Int)=_ from round (by kernel_rfl) (Ay2 R L o o.2.2.1 (o.2.2.1.length:Int) (i:Int)),jG (by omega),Ac (by omega)]
  have ea:kR R o=some (o.2.1++o.2.2.1.flatten,()):=by
   rw[show kR R o=_ from call (Au4 R L o),Bb0 _ (by omega),BC4 _ (by omega) (by omega)]
   simp (disch:=omega) only[st]
  have:=BP2 o ho (o.2.1++o.2.2.1.flatten) (by rw[Ab];exact hf) _ 0 (A' 12 false) rfl (Ap _) rfl
  simp only[Ai,ea,Aa]
  exact this
 | n+1,i,hn,hi=>by
  have hlt:i < o.2.2.1.length:=by omega
  have ih:=BP9 o ho hbl hf n (i+1) (by omega) (by omega)
  have hm:o.2.2.1.getD i [] ∈ o.2.2.1:=xK hlt
  rw[show mX R L o o.2.2.1 (o.2.2.1.length:Int) (i:Int)=_ from round (by kernel_rfl) (Ay2 R L o o.2.2.1 (o.2.2.1.length:Int) (i:Int)),lZ hlt,yH (d:=[]) hlt,zB (i:=i) (by omega),tn,ih]
  generalize o.2.2.1.getD i []=k
  have hc:B0j i (k :: o.2.2.1.drop (i+1))=((decide (k.length≤2)&&k.all fun b=>cM b.2.1&&onB i b.2.1)&&B0j (i+1) (o.2.2.1.drop (i+1))):=rfl
  rw[hc]
  simp (disch:=omega) only[st]
  by_cases hk:k.length≤2
  ·rw[dT hk,dF (show ¬ (2:Int) < (k.length:Int) by omega),AU2 k _ (fun b=>cM b.2.1&&onB i b.2.1) (by omega) (fun b _=>by
    rw[A6a,show Ag0 R b (i:Int)=_ from call (A8q R L b (i:Int)),BC6]
    cases hb:cM b.2.1 with
    | false=>rfl
    | true=>
     rw[show cB R (i:Int) b.2.1=_ from B4a i hb];rfl)]
   simp only[Ai,Aa,A4]
   cases (k.all fun b=>cM b.2.1&&onB i b.2.1)<;>rfl
  ·rw[dF hk,dT (show (2:Int) < (k.length:Int) by omega)];rfl
theorem B2r (o:DO) (h1:o.1.length≤4096) (hf:o.2.1.length+o.2.2.1.flatten.length≤1048576):Aq5 R o=some (Az0 o,()):=by
 rw[show Aq5 R o=_ from call (BI7 R L o),← Bq2,show tZ R o.1 (FnVal.mk 205 FCaps.nil)=_ from BG9 o.1 h1]
 unfold B0n
 rw[show o.1.all A5X=o.1.all cM from rfl]
 by_cases a1:o.1.length=12
 ·rw[dT a1]
  simp (disch:=omega) only[st,Ad]
  cases o.1.all cM with
  | false=>rfl
  | true=>
   by_cases a3:o.2.2.1.length=15
   ·have e0:mX R L o o.2.2.1 (o.2.2.1.length:Int) 0=_:=BP9 o a1 a3 hf 15 0 rfl (by omega)
    rw[dT a3]
    simp (disch:=omega) only[st,Ad,e0]
    rfl
   ·rw[dF a3]
    simp (disch:=omega) only[st,Ad,AA]
    rfl
 ·rw[dF a1]
  simp (disch:=omega) only[st,AA]
  rfl
theorem B21 (e:DE) (hk:e.1.length≤1048576) (h1:e.2.1.1.length≤4096) (hf:e.2.1.2.1.length+e.2.1.2.2.1.flatten.length≤1048576):A1n R e=some (AZ8 e,()):=
 (BL6 (f:=162) rfl _).trans (A5N (E:=EE) (f:=162) (x:=(AZ8 e,())) rfl
  (B2x (E:=EE) rfl e hk (fun x _=>BI2 _ _ _ (A1S x)) (BI2 _ _ _ (B2r e.2.1 h1 hf))))
end Go.Rf.S

end
section
namespace Go.Rf.S
set_option maxRecDepth 100000
theorem B4n {a b:Nat} (h:a ^^^ b=0):a=b:=by
 have e:a=(a ^^^ b) ^^^ b:=by rw[Nat.xor_assoc,Nat.xor_self,Nat.xor_zero]
 rw[h,Nat.zero_xor] at e
 exact e
theorem BA0 {a b:List UInt8} (hl:a.length=b.length) (ha:a.length≤65536):∀ (n i acc:Nat),a.length - i=n→i≤a.length→acc < 256 →
  nQ R L a b (acc:Int) (i:Int)=some (decide (acc=0)&&decide (a.drop i=b.drop i),())
 | 0,i,acc,hn,hi,hc=>by
  rw[show nQ R L a b (acc:Int) (i:Int)=_ from round (by kernel_rfl) (Aa4 R L a b (acc:Int) (i:Int)),jG (i:=i) (n:=a.length) (by omega),(Ac (by omega):a.drop i=[]),(Ac (by omega):b.drop i=[]),B3Y]
  cases decide (acc=0) with
  | false=>rfl
  | true=>simp only[Ai,Aj];rw[yU,dT (show (a.length:Int)=(b.length:Int) by omega)];rfl
 | n+1,i,acc,hn,hi,hc=>by
  have hlt:i < a.length:=by omega
  have hlb:i < b.length:=by omega
  rw[show nQ R L a b (acc:Int) (i:Int)=_ from round (by kernel_rfl) (Aa4 R L a b (acc:Int) (i:Int)),lZ hlt,lZ hlb,yH (d:=0) hlt,yH (d:=0) hlb,zB (by omega),tn]
  generalize a.getD i 0=x
  generalize b.getD i 0=y
  have hx:x.toNat < 2 ^ 8:=x.toNat_lt
  have hy:y.toNat < 2 ^ 8:=y.toNat_lt
  have hxy:x.toNat ^^^ y.toNat < 2 ^ 8:=Nat.xor_lt_two_pow hx hy
  have ho:acc ||| (x.toNat ^^^ y.toNat) < 2 ^ 8:=Nat.or_lt_two_pow hc hxy
  have e1:wB .xor .u8 (x.toNat:Int) (y.toNat:Int)=((x.toNat ^^^ y.toNat:Nat):Int):=A3c (k:=.u8) hx hy
  have e2:Ag .i64 ((x.toNat ^^^ y.toNat:Nat):Int)=((x.toNat ^^^ y.toNat:Nat):Int):=qP (by omega)
  have e3:wB .or .i64 (acc:Int) ((x.toNat ^^^ y.toNat:Nat):Int)=((acc ||| (x.toNat ^^^ y.toNat):Nat):Int):=Au5 (k:=.i64) (by show acc < 2 ^ 63;omega) (by show _ < 2 ^ 63;omega)
  simp (disch:=omega) only[st,e1,e2,e3,BA0 hl ha n (i+1) _ (by omega) (by omega) ho]
  congr 2
  by_cases h0:acc=0
  ·subst h0
   by_cases hq:x=y
   ·subst hq
    rw[Nat.zero_or,Nat.xor_self]
    simp
   ·have:x.toNat ^^^ y.toNat≠0:=fun h=>hq (UInt8.toNat_inj.1 (B4n h))
    rw[Nat.zero_or,dF this]
    simp[hq]
  ·have:acc ||| (x.toNat ^^^ y.toNat)≠0:=fun h=>h0 (Nat.or_eq_zero_iff.1 h).1
   rw[dF this,dF h0];rfl
theorem B1C {a b:List UInt8} (hl:a.length=b.length) (ha:a.length≤65536):AB8 R a b=some (decide (a=b),()):=by
 have:=BA0 hl ha _ 0 0 rfl (Ap _) (by decide)
 rw[show AB8 R a b=_ from call (A5s R L a b),dF (show ¬ (65536:Int) < (a.length:Int) by omega),dF (show ¬ (65536:Int) < (b.length:Int) by omega)]
 exact this
noncomputable def A88 (key nonce ad t:List UInt8):List UInt8 × Bool:=
 if t.length < 16 then ([],false) else if btF key nonce ad (t.take (t.length - 16))=t.drop (t.length - 16) then (chX key nonce ((t.take (t.length - 16)).length / 64+1) 1 (t.take (t.length - 16)),true) else ([],false)
theorem B3E {key nonce ad t:List UInt8} (hk:key.length=32) (hn:nonce.length=12) (ha:ad.length≤1048576) (ht:t.length≤1048576):
  AY5 R key nonce ad t=some ((A88 key nonce ad t).1,((A88 key nonce ad t).2,()))∧eE R key nonce ad t=some ((A88 key nonce ad t).1,((A88 key nonce ad t).2,()))∧(A88 key nonce ad t).1.length≤t.length:=by
 unfold A88
 by_cases h16:t.length < 16
 ·rw[Aw h16]
  refine⟨?_,?_,Ap _⟩
  ·rw[show AY5 R key nonce ad t=_ from call (A9D R L key nonce ad t),dT (show (t.length:Int) < 16 by omega)];rfl
  ·rw[show eE R key nonce ad t=_ from call (A1j R L key nonce ad t),dT (show (t.length:Int) < 16 by omega)];rfl
 ·rw[Az h16]
  obtain⟨m,hm⟩:∃ m,t.length=m+16:=⟨t.length - 16,by omega⟩
  have hw:Ag .i64 ((t.length:Int) - 16)=(m:Int):=by rw[zI (by omega) (by omega)];omega
  have hml:(t.take m).length=m:=by rw[Ax];omega
  obtain⟨b1,b2,b3⟩:=Bs2 (key:=key) (nonce:=nonce) (ad:=ad) (t:=t.take m) hk hn (by omega) (by omega)
  have c1:As6 R key nonce 1 (t.take m)=some (chX key nonce ((t.take m).length / 64+1) 1 (t.take m),()):=Bi9 key nonce hk hn 1 (t.take m) (by omega) (by decide)
  have c2:AH1 R key nonce 1 (t.take m)=some (chX key nonce ((t.take m).length / 64+1) 1 (t.take m),()):=Ba2 key nonce hk hn 1 (t.take m) (by omega) (by decide)
  have hd:(t.drop m).length=16:=by rw[A6];omega
  rw[show t.length - 16=m by omega]
  refine⟨?_,?_,?_⟩
  ·rw[show AY5 R key nonce ad t=_ from call (A9D R L key nonce ad t),dF (show ¬ (t.length:Int) < 16 by omega),hw,AU]
   simp (disch:=omega) only[st,Av,b1,iI]
   by_cases h:btF key nonce ad (t.take m)=t.drop m
   ·rw[dT h,Aw h]
    simp (disch:=omega) only[st,Ad,c1]
   ·rw[dF h,Az h];rfl
  ·rw[show eE R key nonce ad t=_ from call (A1j R L key nonce ad t),dF (show ¬ (t.length:Int) < 16 by omega),hw,AU]
   simp (disch:=omega) only[st,Av,b2,hml,B1C (a:=btF key nonce ad (t.take m)) (b:=t.drop m) (by rw[b3,hd]) (by rw[b3];decide)]
   by_cases h:btF key nonce ad (t.take m)=t.drop m
   ·rw[dT h,Aw h]
    simp (disch:=omega) only[st,Ad,c2]
    rw[hml]
   ·rw[dF h,Az h];rfl
  ·split
   ·have:=B0h hk hn (t.take m) (by omega)
    show (chX key nonce ((t.take m).length / 64+1) 1 (t.take m)).length≤_
    omega
   ·exact Ap _
noncomputable def opD (key:List UInt8) (a b c:Nat) (t:List UInt8):List UInt8 × Bool:=A88 key (Bz0 a b c) blk t
theorem A35 {key t:List UInt8} (hk:key.length=32) (ht:t.length≤1048576) (a b c:Nat):
  eS R key (a:Int) (b:Int) (c:Int) t=some ((opD key a b c t).1,((opD key a b c t).2,()))∧hP R key (a:Int) (b:Int) (c:Int) t=some ((opD key a b c t).1,((opD key a b c t).2,()))∧(opD key a b c t).1.length≤t.length:=by
 obtain⟨h1,h2,h3⟩:=B3E (ad:=blk) (t:=t) hk (Bj4 a b c) (by decide) ht
 refine⟨?_,?_,h3⟩
 ·rw[show eS R key (a:Int) (b:Int) (c:Int) t=_ from call (BI8 R L key (a:Int) (b:Int) (c:Int) t),(Bf0 a b c).1]
  show (AY5 R key (Bz0 a b c) blk t).bind _=_
  rw[h1];rfl
 ·rw[show hP R key (a:Int) (b:Int) (c:Int) t=_ from call (A7T R L key (a:Int) (b:Int) (c:Int) t),(Bf0 a b c).2]
  show (eE R key (Bz0 a b c) blk t).bind _=_
  rw[h2];rfl
def bOK (t:List UInt8):Bool:=pE (pV (po t 7)).2
def bV (t:List UInt8):List DB:=(pV (po t 7)).1
theorem Bm0 (t:List UInt8):dG R t=some (bV t,(bOK t,())):=by
 obtain⟨x,h1,e1⟩:=A94 t 7 (by decide)
 obtain⟨y,h2,e2⟩:=Bu9 2 (by decide) h1
 have e1:kU R t 7=_:=e1
 have e2:vQ R x 2=_:=e2
 rw[show dG R t=_ from call (A2F R L t),e1]
 simp only[Aa]
 rw[e2]
 simp only[Aa]
 rw[Bx0 h2];rfl
theorem Bk3 (t:List UInt8) (ht:t.length≤1048576):∃ v,gW R t=some (v,(bOK t,()))∧(bOK t=true→v=bV t):=by
 obtain⟨x,h1,e1⟩:=A92 t 7 (by decide) ht
 obtain⟨y,h2,e2⟩:=A4m h1 2
 have e1:gE R t 7=_:=e1
 have loop:∀ (c:Nat) {x:SR} {s:SO1} (acc:List DB),RS x s→acc.length+c≤1000→∃ y,RS y (sB c s).2∧uE R L x acc (c:Int)=uE R L y (acc++(sB c s).1) 0:=by
  intro c
  induction c with
  | zero=>intro x s acc h _;exact⟨x,h,by show _=uE R L x (acc++[]) 0;rw[As];rfl⟩
  | succ c ih=>
   intro x s acc h hc
   obtain⟨y1,k1,f1⟩:=AT0 h
   obtain⟨y2,k2,f2⟩:=AT0 k1
   obtain⟨y3,k3,f3⟩:=AT0 k2
   obtain⟨z,k4,f4⟩:=ih (acc++[(sB1 s).1]) k3 (by rw[Ab];simp only[Ae,Ak];omega)
   refine⟨z,k4,?_⟩
   rw[show uE R L x acc ((c+1:Nat):Int)=_ from round (by kernel_rfl) (AG3 R L x acc ((c+1:Nat):Int)),dT (show (0:Int) < ((c+1:Nat):Int) by omega),f1,cD (by omega)]
   simp (disch:=omega) only[st,f2,f3]
   refine A1 f4 ?_
   rw[An];rfl
 obtain⟨n,hn⟩:=Af (Bu4 2 (by decide) (so t 7)).1
 have hb2:=(Bu4 2 (by decide) (so t 7)).2
 obtain⟨z,h3,e3⟩:=loop n [] h2 (by simp only[Ak];omega)
 have hV:sV (so t 7)=sB n (sC 2 (so t 7)).2:=by unfold sV;rw[hn];rfl
 have hl:(sV (so t 7)).1.length≤2:=by rw[hV,Bb1];omega
 rw[← hV] at h3 e3
 obtain⟨b1,b2⟩:=A8d (pso t 7)
 refine⟨(sV (so t 7)).1,?_,fun h=>?_⟩
 ·rw[show gW R t=_ from call (A1Q R L t),e1]
  simp only[Aa]
  rw[e2]
  simp only[Aa]
  rw[hn,e3,A2,show uE R L z (sV (so t 7)).1 0=_ from round (by kernel_rfl) (AG3 R L z (sV (so t 7)).1 0),dF (show ¬ (0:Int) < 0 by omega),Bw7 h3]
  simp only[Ai,Aa]
  rw[B2n _ (by omega)]
  unfold bOK
  rw[b1]
  cases sE (sV (so t 7)).2<;>rfl
 ·unfold bOK at h
  rw[b1] at h
  simp only[Ah] at h
  exact (b2 h.1 h.2).symm
theorem B3B (t:List UInt8):(bV t).length≤2:=by
 unfold bV pV
 rw[A9k]
 have:=(Bi4 2 (by decide) (po t 7)).2
 have:=(Bi4 2 (by decide) (po t 7)).1
 omega
end Go.Rf.S

end
section
namespace Go.Rf.S
set_option maxRecDepth 100000
def sOK (t:List UInt8):Bool:=pE (pZ (po t 140)).2&&(AZ8 (Bc9 (po t 140))&&mG (pZ (po t 140)).1)
def sE1 (t:List UInt8):DE:=Bc9 (po t 140)
def sRs (t:List UInt8):List DR:=(pZ (po t 140)).1
theorem Ax2 (b:Int):∀ (n:Nat) (o:LO),(pS b n o).1.length=n
 | 0,_=>rfl
 | n+1,o=>by show (_ :: _:List Int).length=_;rw[Ae,Ax2 b n]
theorem BB2:∀ (n:Nat) (o:SO1),(sS n o).1.length=n
 | 0,_=>rfl
 | n+1,o=>by show (_ :: _:List Int).length=_;rw[Ae,BB2 n]
theorem Bm2:nob.flatten.length=0:=rfl
theorem Av8 (v2:DE) (E:DE) (hk:E.1.length≤1048576) (h1:E.2.1.1.length≤4096) (hf:E.2.1.2.1.length+E.2.1.2.2.1.flatten.length≤1048576) {n:Nat} (hn:n≤1000):∀ (c i:Nat) {x:PR} {o:LO} (acc:List DR),i+c=n→RP x o→acc.length=i→(∀ r ∈ acc,r.2.1.length≤1048576) →
  oJ R L v2 x E acc (n:Int) (i:Int)=some (if (pE (pR c o).2&&(AZ8 E&&mG (acc++(pR c o).1)))=true then (E,(acc++(pR c o).1,(true,()))) else (([],(([],([],([],()))),())),([],(false,()))))
 | 0,i,x,o,acc,hi,h,ha,hr=>by
  rw[show oJ R L v2 x E acc (n:Int) (i:Int)=_ from round (by kernel_rfl) (AS5 R L v2 x E acc (n:Int) (i:Int)),jG (by omega),Bx0 h]
  show _=some (if (pE o&&(AZ8 E&&mG (acc++[])))=true then (E,(acc++[],(true,()))) else _)
  rw[As]
  cases he:pE o with
  | false=>rfl
  | true=>
   simp only[Ai,Aa,Ad]
   rw[B21 E hk h1 hf]
   cases AZ8 E with
   | false=>rfl
   | true=>
    simp only[Ai,Aa,Ad]
    rw[B2z]
    cases mG acc<;>rfl
 | c+1,i,x,o,acc,hi,h,ha,hr=>by
  obtain⟨y1,k1,e1⟩:=Ax7 h 19
  obtain⟨y2,k2,e2⟩:=Ax7 k1 32
  obtain⟨m,hm⟩:=Af (Bi4 32 (by decide) (pN 19 o).2).1
  have hm2:=(Bi4 32 (by decide) (pN 19 o).2).2
  obtain⟨y3,k3,e3⟩:=B04 (b:=999999) (n:=m) (by omega) k2
  have e1':pR1 o=(((pN 19 o).1,((pS 999999 m (pN 32 (pN 19 o).2).2).1,())),(pS 999999 m (pN 32 (pN 19 o).2).2).2):=by unfold pR1;rw[hm];rfl
  have hl1:(pR1 o).1.2.1.length≤1048576:=by rw[e1'];show (pS 999999 m _).1.length≤_;rw[Ax2];omega
  have k3:RP y3 (pR1 o).2:=by rw[e1'];exact k3
  have ih:=Av8 v2 E hk h1 hf hn c (i+1) (acc++[(pR1 o).1]) (by omega) k3 (by rw[Ab,ha];rfl) (fun r hr'=>by
   rcases A3.1 hr' with h|h
   ·exact hr r h
   ·rw[A0.1 h];exact hl1)
  rw[show oJ R L v2 x E acc (n:Int) (i:Int)=_ from round (by kernel_rfl) (AS5 R L v2 x E acc (n:Int) (i:Int)),lZ (by omega),e1,zB (by omega)]
  simp only[Aj,Aa]
  rw[e2]
  simp only[Aa]
  rw[hm,e3]
  simp (disch:=omega) only[st]
  have hrec:((pN 19 o).1,((pS 999999 m (pN 32 (pN 19 o).2).2).1,()))=(pR1 o).1:=by rw[e1']
  rw[hrec,ih,An]
  rfl
theorem B1Y (t:List UInt8):bH R t=some (if sOK t=true then (sE1 t,(sRs t,(true,()))) else (([],(([],([],([],()))),())),([],(false,())))):=by
 obtain⟨x0,h0,e0⟩:=A94 t 140 (by decide)
 obtain⟨x1,h1,e1⟩:=B04 (b:=7) (n:=12) (by decide) h0
 obtain⟨x2,h2,e2⟩:=Bu9 12 (by decide) h1
 obtain⟨x3,h3,e3⟩:=B04 (b:=9999) (n:=11) (by decide) h2
 obtain⟨x4,h4,e4⟩:=Ax7 h3 2
 obtain⟨n,hn⟩:=Af (Bi4 2 (by decide) (pY (po t 140)).2).1
 have hn2:=(Bi4 2 (by decide) (pY (po t 140)).2).2
 have e0:kU R t 140=_:=e0
 have e1:wG R x0 12 0 7=some ((pK (po t 140)).1,(x1,())):=e1
 have e2:vQ R x1 12=some ((pT (po t 140)).1,(x2,())):=e2
 have e3:wG R x2 11 0 9999=some ((pY (po t 140)).1,(x3,())):=e3
 have e4:xC R x3 0 2=some ((pN 2 (pY (po t 140)).2).1,(x4,())):=e4
 have h4:RP x4 (pN 2 (pY (po t 140)).2).2:=h4
 have hb2:=(Bi4 12 (by decide) (pK (po t 140)).2)
 have hTl:(pT (po t 140)).1.length≤12:=by unfold pT;rw[A9k];omega
 rw[show bH R t=_ from call (A31 R L t),e0]
 simp only[Aa]
 rw[e1]
 simp only[Aa]
 rw[e2]
 simp only[Aa]
 rw[e3]
 simp only[Aa]
 rw[e4]
 simp only[Aa]
 rw[hn]
 have hl:=Av8 ([],(([],([],([],()))),())) (Bc9 (po t 140)) (by show (pS 9999 11 _).1.length≤_;rw[Ax2];decide) (by show (pS 7 12 _).1.length≤_;rw[Ax2];decide) (by
   show (pT (po t 140)).1.length+nob.flatten.length≤_
   rw[Bm2];omega) (n:=n) (by omega) n 0 [] (by omega) h4 rfl (fun _ h=>by cases h)
 have hz:pZ (po t 140)=pR n (pN 2 (pY (po t 140)).2).2:=by unfold pZ;rw[hn];rfl
 rw[← hz,A2] at hl
 exact hl
theorem A2a (v2:DE) (E:DE) (O:List DR) (v12:Int):∀ (c:Nat) {x:SR} {s:SO1} (k:Int) (acc:List Int),RS x s→acc.length+c≤1000→∃ y,RS y (sS c s).2∧uW R L v2 x E O v12 (k,(acc,())) (c:Int)=uW R L v2 y E O v12 (k,(acc++(sS c s).1,())) 0
 | 0,x,s,k,acc,h,_=>⟨x,h,by show _=uW R L v2 x E O v12 (k,(acc++[],())) 0;rw[As];rfl⟩
 | c+1,x,s,k,acc,h,hc=>by
  obtain⟨y1,k1,f1⟩:=AT0 h
  obtain⟨z,k4,f4⟩:=A2a v2 E O v12 c k (acc++[(sN s).1]) k1 (by rw[Ab];simp only[Ae,Ak];omega)
  refine⟨z,k4,?_⟩
  rw[show uW R L v2 x E O v12 (k,(acc,())) ((c+1:Nat):Int)=_ from round (by kernel_rfl) (AO5 R L v2 x E O v12 (k,(acc,())) ((c+1:Nat):Int)),dT (show (0:Int) < ((c+1:Nat):Int) by omega),f1,cD (by omega)]
  simp (disch:=omega) only[st]
  rw[f4,An];rfl
theorem A9W (v2:DE) (E:DE) (hk:E.1.length≤1048576) (h1:E.2.1.1.length≤4096):∀ (c:Nat) {x:SR} {s:SO1} (acc:List DR),RS x s→acc.length+c≤1000→(∀ r ∈ acc,r.2.1.length≤1048576) →
  rM R L v2 x E acc (c:Int)=some (E,(acc++(sR c s).1,(sE (sR c s).2&&(AZ8 E&&mG (acc++(sR c s).1)),())))
 | 0,x,s,acc,h,_,hr=>by
  show rM R L v2 x E acc ((0:Nat):Int)=some (E,(acc++[],(sE s&&(AZ8 E&&mG (acc++[])),())))
  rw[As,show rM R L v2 x E acc ((0:Nat):Int)=_ from round (by kernel_rfl) (AN6 R L v2 x E acc ((0:Nat):Int)),dF (show ¬ (0:Int) < ((0:Nat):Int) by omega),Bw7 h]
  simp only[Ai,Aa]
  cases sE s with
  | false=>rfl
  | true=>
   simp only[Aj]
   rw[B16 E hk h1]
   simp only[Aa]
   cases AZ8 E with
   | false=>rfl
   | true=>
    simp only[Aj]
    rw[B1x acc (by omega) hr];rfl
 | c+1,x,s,acc,h,hc,hr=>by
  obtain⟨y1,k1,f1⟩:=AT0 h
  obtain⟨y2,k2,f2⟩:=A4m k1 32
  obtain⟨m,hm⟩:=Af (Bu4 32 (by decide) (sN s).2).1
  have hm2:=(Bu4 32 (by decide) (sN s).2).2
  obtain⟨y3,k3,f3⟩:=A2a v2 E acc ((c+1:Nat):Int) m (sN s).1 [] k2 (by simp only[Ak];omega)
  have e1':sR1 s=(((sN s).1,((sS m (sC 32 (sN s).2).2).1,())),(sS m (sC 32 (sN s).2).2).2):=by unfold sR1;rw[hm];rfl
  have hl1:(sR1 s).1.2.1.length≤1048576:=by rw[e1'];show (sS m _).1.length≤_;rw[BB2];omega
  have k3:RS y3 (sR1 s).2:=by rw[e1'];exact k3
  have ih:=A9W v2 E hk h1 c (acc++[(sR1 s).1]) k3 (by rw[Ab];simp only[Ae,Ak];omega) (fun r hr'=>by
   rcases A3.1 hr' with h|h
   ·exact hr r h
   ·rw[A0.1 h];exact hl1)
  rw[show rM R L v2 x E acc ((c+1:Nat):Int)=_ from round (by kernel_rfl) (AN6 R L v2 x E acc ((c+1:Nat):Int)),dT (show (0:Int) < ((c+1:Nat):Int) by omega),f1]
  simp only[Aj,Aa]
  rw[f2]
  simp only[Aa]
  rw[hm,f3,A2]
  have hrec:((sN s).1,((sS m (sC 32 (sN s).2).2).1,()))=(sR1 s).1:=by rw[e1']
  rw[hrec,show uW R L v2 y3 E acc ((c+1:Nat):Int) (sR1 s).1 0=_ from round (by kernel_rfl) (AO5 R L v2 y3 E acc ((c+1:Nat):Int) (sR1 s).1 0),dF (show ¬ (0:Int) < 0 by omega),cD (by omega)]
  simp (disch:=omega) only[st]
  rw[ih,An];rfl
theorem BC2 (v2:DE):∀ (c i:Nat) {x:SR} {s:SO1} (E:DE),i+c=11→RS x s→E.1.length=i→∃ y,RS y (sS c s).2∧yZ R L v2 x E (i:Int)=yZ R L v2 y (E.1++(sS c s).1,E.2) 11
 | 0,i,x,s,E,hi,h,hE=>by
  have:i=11:=by omega
  subst this
  exact⟨x,h,by show _=yZ R L v2 x (E.1++[],E.2) 11;rw[As];rfl⟩
 | c+1,i,x,s,E,hi,h,hE=>by
  obtain⟨y1,k1,f1⟩:=AT0 h
  obtain⟨z,k4,f4⟩:=BC2 v2 c (i+1) (E.1++[(sN s).1],E.2) (by omega) k1 (by show (E.1++[(sN s).1]).length=_;rw[Ab,hE];rfl)
  refine⟨z,k4,?_⟩
  rw[show yZ R L v2 x E (i:Int)=_ from round (by kernel_rfl) (AO4 R L v2 x E (i:Int)),dT (show (i:Int) < 11 by omega),f1,zB (by omega)]
  simp (disch:=omega) only[st]
  rw[f4,An];rfl
theorem A95 (v2:DE):∀ (c:Nat) {x:SR} {s:SO1} (E:DE),RS x s→E.2.1.2.1.length+c≤1000→∃ y,RS y (sB c s).2∧tF R L v2 x E (c:Int)=yZ R L v2 y (E.1,((E.2.1.1,(E.2.1.2.1++(sB c s).1,E.2.1.2.2)),E.2.2)) 0
 | 0,x,s,E,h,_=>by
  refine⟨x,h,?_⟩
  show tF R L v2 x E ((0:Nat):Int)=yZ R L v2 x (E.1,((E.2.1.1,(E.2.1.2.1++[],E.2.1.2.2)),E.2.2)) 0
  rw[As,show tF R L v2 x E ((0:Nat):Int)=_ from round (by kernel_rfl) (AO6 R L v2 x E ((0:Nat):Int)),dF (show ¬ (0:Int) < ((0:Nat):Int) by omega)];rfl
 | c+1,x,s,E,h,hc=>by
  obtain⟨y1,k1,f1⟩:=AT0 h
  obtain⟨y2,k2,f2⟩:=AT0 k1
  obtain⟨y3,k3,f3⟩:=AT0 k2
  obtain⟨z,k4,f4⟩:=A95 v2 c (E.1,((E.2.1.1,(E.2.1.2.1++[(sB1 s).1],E.2.1.2.2)),E.2.2)) k3 (by show (E.2.1.2.1++[(sB1 s).1]).length+c≤_;rw[Ab];simp only[Ae,Ak];omega)
  refine⟨z,k4,?_⟩
  rw[show tF R L v2 x E ((c+1:Nat):Int)=_ from round (by kernel_rfl) (AO6 R L v2 x E ((c+1:Nat):Int)),dT (show (0:Int) < ((c+1:Nat):Int) by omega),f1,cD (by omega)]
  simp only[Aj,Aa]
  rw[f2]
  simp only[Aa]
  rw[f3]
  simp (disch:=omega) only[st]
  refine A1 f4 ?_
  show yZ R L v2 z (E.1,((E.2.1.1,((E.2.1.2.1++[(sB1 s).1])++(sB c _).1,E.2.1.2.2)),E.2.2)) 0=_
  rw[An];rfl
theorem A9Q (v2:DE):∀ (c i:Nat) {x:SR} {s:SO1} (E:DE),i+c=12→RS x s→E.2.1.1.length=i→∃ y,RS y (sS c s).2∧vC R L v2 x E (i:Int)=vC R L v2 y (E.1,((E.2.1.1++(sS c s).1,E.2.1.2),E.2.2)) 12
 | 0,i,x,s,E,hi,h,hE=>by
  have:i=12:=by omega
  subst this
  exact⟨x,h,by show _=vC R L v2 x (E.1,((E.2.1.1++[],E.2.1.2),E.2.2)) 12;rw[As];rfl⟩
 | c+1,i,x,s,E,hi,h,hE=>by
  obtain⟨y1,k1,f1⟩:=AT0 h
  obtain⟨z,k4,f4⟩:=A9Q v2 c (i+1) (E.1,((E.2.1.1++[(sN s).1],E.2.1.2),E.2.2)) (by omega) k1 (by show (E.2.1.1++[(sN s).1]).length=_;rw[Ab,hE];rfl)
  refine⟨z,k4,?_⟩
  rw[show vC R L v2 x E (i:Int)=_ from round (by kernel_rfl) (AO0 R L v2 x E (i:Int)),dT (show (i:Int) < 12 by omega),f1,zB (by omega)]
  simp (disch:=omega) only[st]
  refine A1 f4 ?_
  show vC R L v2 z (E.1,(((E.2.1.1++[(sN s).1])++(sS c _).1,E.2.1.2),E.2.2)) 12=_
  rw[An];rfl
theorem B3z:AV4 R []=some (([],([],(nob,()))),()):=by
 rw[show AV4 R []=_ from call (BG6 R L [])]
 rfl
theorem B0t (t:List UInt8) (ht:t.length≤1048576):∃ e rs,dQ R t=some (e,(rs,(sOK t,())))∧(sOK t=true→e=sE1 t∧rs=sRs t):=by
 obtain⟨x0,h0,f0⟩:=A92 t 140 (by decide) ht
 have f0:gE R t 140=_:=f0
 obtain⟨x1,h1,f1⟩:=A9Q ([],(([],([],([],()))),())) 12 0 ([],(([],([],(nob,()))),())) (by omega) h0 rfl
 have f1:vC R L ([],(([],([],([],()))),())) x0 ([],(([],([],(nob,()))),())) 0=_:=f1
 obtain⟨x2,h2,f2⟩:=A4m h1 12
 have f2:xE R x1 12=some ((sC 12 (sK (so t 140)).2).1,(x2,())):=f2
 obtain⟨n1,hn1⟩:=Af (Bu4 12 (by decide) (sK (so t 140)).2).1
 have hn1b:=(Bu4 12 (by decide) (sK (so t 140)).2).2
 obtain⟨x3,h3,f3⟩:=A95 ([],(([],([],([],()))),())) n1 ([],(((sK (so t 140)).1,([],(nob,()))),())) h2 (by show 0+n1≤_;omega)
 have hT:sT (so t 140)=sB n1 (sC 12 (sK (so t 140)).2).2:=by unfold sT;rw[hn1];rfl
 have h3:RS x3 (sT (so t 140)).2:=by rw[hT];exact h3
 have f3:tF R L ([],(([],([],([],()))),())) x2 ([],(((sK (so t 140)).1,([],(nob,()))),())) (n1:Int)=yZ R L ([],(([],([],([],()))),())) x3 ([],(((sK (so t 140)).1,((sT (so t 140)).1,(nob,()))),())) 0:=by rw[hT];exact f3
 obtain⟨x4,h4,f4⟩:=BC2 ([],(([],([],([],()))),())) 11 0 ([],(((sK (so t 140)).1,((sT (so t 140)).1,(nob,()))),())) (by omega) h3 rfl
 have f4:yZ R L ([],(([],([],([],()))),())) x3 ([],(((sK (so t 140)).1,((sT (so t 140)).1,(nob,()))),())) 0=yZ R L ([],(([],([],([],()))),())) x4 (A19 (so t 140)) 11:=f4
 obtain⟨x5,h5,f5⟩:=A4m h4 2
 have f5:xE R x4 2=some ((sC 2 (sY (so t 140)).2).1,(x5,())):=f5
 have h5:RS x5 (sC 2 (sY (so t 140)).2).2:=h5
 obtain⟨n2,hn2⟩:=Af (Bu4 2 (by decide) (sY (so t 140)).2).1
 have hn2b:=(Bu4 2 (by decide) (sY (so t 140)).2).2
 have hY:(A19 (so t 140)).1.length=11:=BB2 11 _
 have hK:(A19 (so t 140)).2.1.1.length=12:=BB2 12 _
 have f6:=A9W ([],(([],([],([],()))),())) (A19 (so t 140)) (by rw[hY];decide) (by rw[hK];decide) n2 [] h5 (by show 0+n2≤_;omega) (fun _ h=>by cases h)
 have hZ:sZ (so t 140)=sR n2 (sC 2 (sY (so t 140)).2).2:=by unfold sZ;rw[hn2];rfl
 rw[← hZ,A2] at f6
 obtain⟨b1,b2⟩:=BK5 Bn6 B0m (pso t 140)
 refine⟨A19 (so t 140),(sZ (so t 140)).1,?_,fun h=>?_⟩
 ·rw[show dQ R t=_ from call (A13 R L t),f0,B3z]
  simp only[Aa]
  rw[f1,show vC R L ([],(([],([],([],()))),())) x1 (([]:List Int),(([]++(sS 12 (so t 140)).1,(([]:List DB),(nob,()))),())) 12=_ from round (by kernel_rfl) (AO0 R L _ x1 _ 12),dF (show ¬ (12:Int) < 12 by omega),f2]
  simp only[Ai,Aa]
  rw[hn1]
  refine A1 f3 ?_
  rw[f4,show yZ R L ([],(([],([],([],()))),())) x4 (A19 (so t 140)) 11=_ from round (by kernel_rfl) (AO4 R L _ x4 _ 11),dF (show ¬ (11:Int) < 11 by omega),f5]
  simp only[Ai,Aa]
  rw[hn2,f6]
  unfold sOK
  rw[b1]
 ·unfold sOK at h
  rw[b1] at h
  simp only[Ah] at h
  obtain⟨c1,c2⟩:=b2 h.1 h.2.1 h.2.2
  exact⟨c1.symm,c2.symm⟩
end Go.Rf.S

end
section
namespace Go.Rf.S
set_option maxRecDepth 100000
def AA9 (x:uO):List (List UInt8):=(x.2.2.1.1.drop (16 * x.2.1.2.1.toNat)).take 16
theorem Ak8 {x:uO} (h:SO x):(AA9 x).length=16:=by
 unfold AA9
 have:=h.dl;have:=h.sd
 rw[Ax,A6];omega
theorem A0K {x:uO} {s:List UInt8} (hs:s ∈ AA9 x):s ∈ x.2.2.1.1:=AF (AG hs)
theorem B2b {x:uO} (h:SO x):jU R x=some (AA9 x,()):=by
 have h1:=h.dl;have h2:=h.sd
 obtain⟨s,hs⟩:=Af (show 0≤x.2.1.2.1 by omega)
 rw[show jU R x=_ from call (Aq8 R L x),hs,zB (by omega),show Ag .i64 (16 * ((s+1:Nat):Int))=((16 * (s+1):Nat):Int) by rw[zI (by omega) (by omega)];omega,show Ag .i64 (16 * (s:Int))=((16 * s:Nat):Int) by rw[zI (by omega) (by omega)];omega]
 simp (disch:=omega) only[st]
 unfold AA9
 rw[hs,Int.toNat_natCast,List.drop_take]
 congr 2
 rw[show 16 * (s+1) - 16 * s=16 by omega]
theorem B14 (d:mN) (hu:d.2.1=[]) (i:Nat) (hi:i < d.1.length):AN1 R d (i:Int)=some (d.1.getD i [],()):=by
 obtain⟨s,u,w⟩:=d
 have hu:u=[]:=hu
 subst hu
 rw[show AN1 R (s,([],w)) (i:Int)=_ from call (A8V R L (s,([],w)) (i:Int))]
 show iO R L (i:Int) (s,([],w)) (Ag .i64 (((0:Nat):Int) - 1))=_
 rw[show Ag .i64 (((0:Nat):Int) - 1)=-1 from rfl,show iO R L (i:Int) (s,([],w)) (-1)=_ from round (by kernel_rfl) (A3y R L (i:Int) (s,([],w)) (-1)),dF (show ¬ (0:Int)≤-1 by omega)]
 have hi:i < s.length:=hi
 simp (disch:=omega) only[st]
theorem Bm4 {x:uO} (h:SO x) {i:Nat} (hi:i < 16):(AA9 x).getD i []=x.2.2.1.1.getD (16 * x.2.1.2.1.toNat+i) []:=by
 have h1:=h.dl;have h2:=h.sd
 unfold AA9
 rw[Al,List.getElem?_take,Aw hi,List.getElem?_drop,← Al]
noncomputable def bk (x:uO) (i:Nat):List UInt8 × Bool:=opD x.1 2 (16 * x.2.1.2.1.toNat+1+i) x.2.1.1.toNat ((AA9 x).getD (i+1) [])
noncomputable def ldB (x:uO):Nat→Nat→List (List DB)→Option (List (List DB))
 | 0,_,bs=>some bs
 | c+1,i,bs=>if (bk x i).2=true then (if bOK (bk x i).1=true then ldB x c (i+1) (bs.set i (bV (bk x i).1)) else none) else none
noncomputable def hd (x:uO):List UInt8 × Bool:=opD x.1 1 (16 * x.2.1.2.1.toNat) x.2.1.1.toNat ((AA9 x).getD 0 [])
abbrev DL:Type:=DE × (List DR × (Bool × Unit))
def no3:DL:=(([],(([],([],([],()))),())),([],(false,())))
def AH6 (e:DE) (bs:List (List DB)):DE:=(e.1,((e.2.1.1,(e.2.1.2.1,(bs,e.2.1.2.2.2))),e.2.2))
noncomputable def ldF (x:uO):DL:=
 if A44 (AA9 x)=x.2.1.2.2.2.2.2.2.1 then (if (hd x).2=true then (if sOK (hd x).1=true then (match ldB x 15 0 nob with
  | none=>no3
  | some bs=>(AH6 (sE1 (hd x).1) bs,(sRs (hd x).1,(AZ8 (AH6 (sE1 (hd x).1) bs),())))) else no3) else no3) else no3
theorem Bl7 (l:List (List DB)) (i:Nat) (b:List DB) (hi:i < l.length):(l.set i b).flatten.length+(l.getD i []).length=l.flatten.length+b.length:=by
 induction l generalizing i with
 | nil=>exact absurd hi (AN _)
 | cons a l ih=>
  cases i with
  | zero=>
   show (b :: l).flatten.length+a.length=(a :: l).flatten.length+b.length
   simp only[AB,Ab];omega
  | succ i=>
   have:=ih i (by simpa using hi)
   show (a :: l.set i b).flatten.length+(l.getD i []).length=(a :: l).flatten.length+b.length
   simp only[AB,Ab];omega
theorem B4K {x:uO} (h:SO x) (t:List UInt8) (hh:(sE1 t).2.1.2.1.length≤12) (rs:List DR) (v2:DE):∀ (c i:Nat) (bs:List (List DB)),i+c=15→bs.length=15→bs.flatten.length≤2 * i →
  qM R L x v2 (AA9 x) (16 * x.2.1.2.1) (AH6 (sE1 t) bs) rs 15 (i:Int)=some (match ldB x c i bs with|none=>no3|some bs=>(AH6 (sE1 t) bs,(rs,(AZ8 (AH6 (sE1 t) bs),()))))
 | 0,i,bs,hi,hb,hf=>by
  have:i=15:=by omega
  subst this
  rw[show qM R L x v2 (AA9 x) (16 * x.2.1.2.1) (AH6 (sE1 t) bs) rs 15 ((15:Nat):Int)=_ from round (by kernel_rfl) (AH5 R L x v2 (AA9 x) _ (AH6 (sE1 t) bs) rs 15 ((15:Nat):Int)),dF (show ¬ ((15:Nat):Int) < 15 by omega),B21 (AH6 (sE1 t) bs) (by show (pS 9999 11 _).1.length≤_;rw[Ax2];decide) (by show (pS 7 12 _).1.length≤_;rw[Ax2];decide) (by
   show (sE1 t).2.1.2.1.length+bs.flatten.length≤_;omega)]
  rfl
 | c+1,i,bs,hi,hb,hf=>by
  have h1:=h.dl;have h2:=h.sd;have h3:=h.c0;have h4:=h.c1
  obtain⟨s,hs⟩:=Af (show 0≤x.2.1.2.1 by omega)
  obtain⟨C,hC⟩:=Af h3
  have hsl:=Ak8 h
  have hm:(AA9 x).getD (i+1) [] ∈ x.2.2.1.1:=A0K (xK (by omega))
  have hml:=h.ds _ hm
  obtain⟨o1,o2,o3⟩:=A35 (key:=x.1) (t:=(AA9 x).getD (i+1) []) h.k (by omega) 2 (16 * s+1+i) C
  have hbk:bk x i=opD x.1 2 (16 * s+1+i) C ((AA9 x).getD (i+1) []):=by unfold bk;rw[hs,hC];rfl
  rw[← hbk] at o1 o3
  have o1:eS R x.1 2 ((16 * s+1+i:Nat):Int) (C:Int) ((AA9 x).getD (i+1) [])=_:=o1
  have e1:Ag .i64 (1+(i:Int))=((i+1:Nat):Int):=by rw[zI (by omega) (by omega)];omega
  have e2:Ag .i64 (Ag .i64 (16 * x.2.1.2.1+1)+(i:Int))=((16 * s+1+i:Nat):Int):=by
   rw[hs,zI (n:=16 * ((s:Nat):Int)+1) (by omega) (by omega),zI (by omega) (by omega)];omega
  have ih:=B4K h t hh rs v2 c (i+1) (bs.set i (bV (bk x i).1)) (by omega) (by rw[AM];exact hb) (by
   have:=Bl7 bs i (bV (bk x i).1) (by omega)
   have:=B3B (bk x i).1
   omega)
  rw[show qM R L x v2 (AA9 x) (16 * x.2.1.2.1) (AH6 (sE1 t) bs) rs 15 (i:Int)=_ from round (by kernel_rfl) (AH5 R L x v2 (AA9 x) _ (AH6 (sE1 t) bs) rs 15 (i:Int)),dT (show (i:Int) < 15 by omega),e1,e2,hC,zB (by omega)]
  simp (disch:=omega) only[st,o1,Bm0]
  unfold ldB
  cases hb1:(bk x i).2 with
  | false=>rfl
  | true=>
   rw[Aw rfl]
   cases hb2:bOK (bk x i).1 with
   | false=>rfl
   | true=>
    rw[Aw rfl]
    have hlt:i < (AH6 (sE1 t) bs).2.1.2.2.1.length:=by show i < bs.length;omega
    simp (disch:=omega) only[st,Ad]
    exact ih
theorem B4M {x:uO} (h:SO x) (t:List UInt8) (rs:List DR) (v2:DE):∀ (c i:Nat) (bs:List (List DB)),i+c=15→bs.length=15 →
  lJ R L x v2 (AA9 x) (AH6 (sE1 t) bs) rs (i:Int)=some (match ldB x c i bs with|none=>no3|some bs=>(AH6 (sE1 t) bs,(rs,(AZ8 (AH6 (sE1 t) bs),()))))
 | 0,i,bs,hi,hb=>by
  have:i=15:=by omega
  subst this
  rw[show lJ R L x v2 (AA9 x) (AH6 (sE1 t) bs) rs ((15:Nat):Int)=_ from round (by kernel_rfl) (An1 R L x v2 (AA9 x) (AH6 (sE1 t) bs) rs ((15:Nat):Int)),dF (show ¬ ((15:Nat):Int) < 15 by omega),B16 (AH6 (sE1 t) bs) (by show (pS 9999 11 _).1.length≤_;rw[Ax2];decide) (by show (pS 7 12 _).1.length≤_;rw[Ax2];decide)]
  rfl
 | c+1,i,bs,hi,hb=>by
  have h1:=h.dl;have h2:=h.sd;have h3:=h.c0;have h4:=h.c1
  obtain⟨s,hs⟩:=Af (show 0≤x.2.1.2.1 by omega)
  obtain⟨C,hC⟩:=Af h3
  have hsl:=Ak8 h
  have hm:(AA9 x).getD (i+1) [] ∈ x.2.2.1.1:=A0K (xK (by omega))
  have hml:=h.ds _ hm
  obtain⟨o1,o2,o3⟩:=A35 (key:=x.1) (t:=(AA9 x).getD (i+1) []) h.k (by omega) 2 (16 * s+1+i) C
  have hbk:bk x i=opD x.1 2 (16 * s+1+i) C ((AA9 x).getD (i+1) []):=by unfold bk;rw[hs,hC];rfl
  rw[← hbk] at o2 o3
  have o2:hP R x.1 2 ((16 * s+1+i:Nat):Int) (C:Int) ((AA9 x).getD (i+1) [])=_:=o2
  have e1:Ag .i64 (1+(i:Int))=((i+1:Nat):Int):=by rw[zI (by omega) (by omega)];omega
  have e2:Ag .i64 (Ag .i64 (Ag .i64 (16 * x.2.1.2.1)+1)+(i:Int))=((16 * s+1+i:Nat):Int):=by
   rw[hs,zI (n:=16 * ((s:Nat):Int)) (by omega) (by omega),zI (n:=16 * ((s:Nat):Int)+1) (by omega) (by omega),zI (by omega) (by omega)];omega
  obtain⟨v,b1,b2⟩:=Bk3 (bk x i).1 (by omega)
  have ih:=B4M h t rs v2 c (i+1) (bs.set i (bV (bk x i).1)) (by omega) (by rw[AM];exact hb)
  rw[show lJ R L x v2 (AA9 x) (AH6 (sE1 t) bs) rs (i:Int)=_ from round (by kernel_rfl) (An1 R L x v2 (AA9 x) (AH6 (sE1 t) bs) rs (i:Int)),dT (show (i:Int) < 15 by omega),e1,e2,hC,zB (by omega)]
  simp (disch:=omega) only[st,o2,b1]
  unfold ldB
  cases hb1:(bk x i).2 with
  | false=>rfl
  | true=>
   rw[Aw rfl]
   cases hb2:bOK (bk x i).1 with
   | false=>rfl
   | true=>
    rw[Aw rfl,b2 hb2]
    have hlt:i < (AH6 (sE1 t) bs).2.1.2.2.1.length:=by show i < bs.length;omega
    simp (disch:=omega) only[st,Ad]
    exact ih
theorem Ba0 {x:uO} (h:SO x):Sh (AA9 x):=fun s hs=>AJ (h.ds s (A0K hs)) (by decide)
theorem BY1 (t:List UInt8):(sE1 t).2.1.2.1.length≤12:=by
 show (pT (po t 140)).1.length≤12
 have hb2:=(Bi4 12 (by decide) (pK (po t 140)).2)
 unfold pT;rw[A9k];omega
theorem B4W {x:uO} (h:SO x):eS R x.1 1 (16 * x.2.1.2.1) x.2.1.1 ((AA9 x).getD 0 [])=some ((hd x).1,((hd x).2,()))∧hP R x.1 1 (16 * x.2.1.2.1) x.2.1.1 ((AA9 x).getD 0 [])=some ((hd x).1,((hd x).2,()))∧(hd x).1.length≤1048576:=by
 have h2:=h.sd;have h3:=h.c0
 obtain⟨s,hs⟩:=Af (show 0≤x.2.1.2.1 by omega)
 obtain⟨C,hC⟩:=Af h3
 have hsl:=Ak8 h
 have hml:=h.ds _ (A0K (xK (d:=[]) (show 0 < (AA9 x).length by omega)))
 obtain⟨o1,o2,o3⟩:=A35 (key:=x.1) (t:=(AA9 x).getD 0 []) h.k (by omega) 1 (16 * s) C
 have hbk:hd x=opD x.1 1 (16 * s) C ((AA9 x).getD 0 []):=by unfold hd;rw[hs,hC];rfl
 rw[← hbk] at o1 o2 o3
 rw[hs,hC,show 16 * ((s:Nat):Int)=((16 * s:Nat):Int) by omega]
 exact⟨o1,o2,by omega⟩
theorem B2c {x:uO} (h:SO x):fE R x=some (ldF x):=by
 have hsl:=Ak8 h
 have h2:=h.sd
 obtain⟨o1,_,_⟩:=B4W h
 rw[show fE R x=_ from call (A01 R L x),B2b h,zI (n:=16 * x.2.1.2.1) (by omega) (by omega)]
 simp only[Aa]
 rw[(Bv8 hsl (Ba0 h)).1]
 simp only[Aa,iI]
 unfold ldF
 by_cases hr:A44 (AA9 x)=x.2.1.2.2.2.2.2.2.1
 ·rw[dT hr,Aw hr]
  simp (disch:=omega) only[st,Ad]
  rw[show (0:Int).toNat=0 from rfl,o1]
  simp only[Aa]
  rw[B1Y]
  simp only[Aa]
  cases h1:(hd x).2 with
  | false=>rfl
  | true=>
   rw[Aw rfl]
   cases h2:sOK (hd x).1 with
   | false=>rfl
   | true=>
    simp only[Ai,Ad,if_true]
    exact B4K h (hd x).1 (BY1 _) (sRs (hd x).1) _ 15 0 nob rfl rfl (by decide)
 ·rw[dF hr,Az hr];rfl
theorem B2h {x:uO} (h:SO x):AI5 R x=some (ldF x):=by
 have hsl:=Ak8 h
 have h1:=h.dl;have h2:=h.sd
 obtain⟨s,hs⟩:=Af (show 0≤x.2.1.2.1 by omega)
 obtain⟨_,o1,o3⟩:=B4W h
 obtain⟨e,rs,f1,f2⟩:=B0t (hd x).1 o3
 have loop:∀ (n i:Nat),16 - i=n→i≤16→pD R L x ([],(([],([],([],()))),())) ((AA9 x).take i) (i:Int)=pD R L x ([],(([],([],([],()))),())) (AA9 x) 16:=by
  intro n
  induction n with
  | zero=>
   intro i hn hi
   have:i=16:=by omega
   subst this
   rw[List.take_of_length_le (by omega)];rfl
  | succ n ih=>
   intro i hn hi
   have e2:Ag .i64 (Ag .i64 (16 * x.2.1.2.1)+(i:Int))=((16 * s+i:Nat):Int):=by
    rw[hs,zI (n:=16 * ((s:Nat):Int)) (by omega) (by omega),zI (by omega) (by omega)];omega
   have hg:(AA9 x).getD i []=x.2.2.1.1.getD (16 * s+i) []:=by rw[Bm4 h (by omega),hs];rfl
   rw[show pD R L x ([],(([],([],([],()))),())) ((AA9 x).take i) (i:Int)=_ from round (by kernel_rfl) (Ai8 R L x _ ((AA9 x).take i) (i:Int)),dT (show (i:Int) < 16 by omega),e2,B14 x.2.2.1 h.u _ (by omega),zB (by omega)]
   have hl:((AA9 x).take i).length=i:=by rw[Ax];omega
   simp (disch:=omega) only[st,hl]
   rw[← ih (i+1) (by omega) (by omega),← hg,AR,Al,At (by omega)]
   rfl
 have h0:=loop 16 0 rfl (by decide)
 rw[AZ] at h0
 have h0:pD R L x ([],(([],([],([],()))),())) [] 0=_:=h0
 rw[show AI5 R x=_ from call (A7R R L x),h0,show pD R L x ([],(([],([],([],()))),())) (AA9 x) 16=_ from round (by kernel_rfl) (Ai8 R L x _ (AA9 x) 16),dF (show ¬ (16:Int) < 16 by omega),zI (n:=16 * x.2.1.2.1) (by omega) (by omega)]
 simp only[Ai]
 rw[(Bv8 hsl (Ba0 h)).2]
 simp only[Aa,iI]
 unfold ldF
 by_cases hr:A44 (AA9 x)=x.2.1.2.2.2.2.2.2.1
 ·rw[dT hr,Aw hr]
  simp (disch:=omega) only[st,Ad]
  rw[show (0:Int).toNat=0 from rfl,o1]
  simp only[Aa]
  rw[f1]
  simp only[Aa]
  cases h1:(hd x).2 with
  | false=>rfl
  | true=>
   rw[Aw rfl]
   cases h2:sOK (hd x).1 with
   | false=>rfl
   | true=>
    obtain⟨rfl,rfl⟩:=f2 h2
    simp only[Ai,Ad,if_true]
    exact B4M h (hd x).1 (sRs (hd x).1) _ 15 0 nob rfl rfl
 ·rw[dF hr,Az hr];rfl
def B4A (S:List (List UInt8)):Nat→Nat→List UInt8→List UInt8
 | 0,_,t=>t
 | c+1,n,t=>B4A S c (n+1) (B2p t (S.getD (32+n % 8) []))
def whole (x:uO):Bool:=decide (B4A x.2.2.1.1 (x.2.1.2.2.1.toNat - x.2.1.1.toNat) (x.2.1.1.toNat+1) x.2.1.2.2.2.2.1=x.2.1.2.2.2.2.2.1)
end Go.Rf.S

end
section
namespace Go.Rf.S
set_option maxRecDepth 100000
def upR (x:uO):uO:=(x.1,((x.2.1.1,(x.2.1.2.1,(x.2.1.2.2.1,(x.2.1.2.2.2.1+1,x.2.1.2.2.2.2)))),(x.2.2.1,(true,x.2.2.2.2))))
end Go.Rf.S

end
section
namespace Go.Rf.S
set_option maxRecDepth 100000
end Go.Rf.S

end
section
namespace Go.Rf.S
set_option maxRecDepth 100000
def BH1 (w:fC):Bool:=eqI (w.2.2.2.1.length:Int) (Ag .i64 (w.1.2.1.2.2.1 - w.1.2.1.1))
def cJ (w:fC):Bool:=AM5 w.1&&((At0 w.2.1&&Az8 w.2.1)&&(A5W w.2.2.1&&(BH1 w&&(w.2.2.2.1.all aY&&mG w.2.2.2.2.1))))
structure SmallW (w:fC):Prop where
 m:w.2.2.1.length≤4611686018427387904
 q:w.2.2.2.1.length≤4611686018427387904
 r:w.2.2.2.2.1.length≤4611686018427387904
 b:∀ l ∈ w.2.2.2.1,∀ t ∈ l,t.1.length≤4611686018427387904
theorem B2O {w:fC} (h:cnt aU w≤1048576):SmallW w:=by
 have hc:cnt aU w=(cnt qB w.1+(cnt vG w.2.1+(cnt (.sl xZ) w.2.2.1+(cnt (.sl (.sl vL)) w.2.2.2.1+(cnt (.sl yN) w.2.2.2.2.1+(0+0)))))):=rfl
 have h1:cnt (.sl xZ) w.2.2.1=w.2.2.1.length+(w.2.2.1.map (cnt xZ)).sum:=rfl
 have h2:cnt (.sl (.sl vL)) w.2.2.2.1=w.2.2.2.1.length+(w.2.2.2.1.map (cnt (.sl vL))).sum:=rfl
 have h3:cnt (.sl yN) w.2.2.2.2.1=w.2.2.2.2.1.length+(w.2.2.2.2.1.map (cnt yN)).sum:=rfl
 refine⟨by omega,by omega,by omega,fun l hl t ht=>?_⟩
 have e1:=A3t (f:=cnt (.sl vL)) hl
 have e2:cnt (.sl vL) l=l.length+(l.map (cnt vL)).sum:=rfl
 have e3:=A3t (f:=cnt vL) ht
 have e4:cnt vL t=cnt (.sl Ad7) t.1+0:=rfl
 have e5:cnt (.sl Ad7) t.1=t.1.length+(t.1.map (cnt Ad7)).sum:=rfl
 omega
theorem A7f (w:fC) (h:SmallW w):AK7 R w=some (cJ w,()):=by
 have hq:AK7 R w=_:=call (A7u R L w)
 rw[hq,A8n,Ax5,Bb4,A18 _ h.r,Bj7]
 simp only[Aa]
 have hl:=AL5 (fun i=>qA R L w w false i) w.2.2.2.1 [] aY true (by
  have hq:qA R L w w false (w.2.2.2.1.length:Nat)=_:=round (by kernel_rfl) (Ak3 R L w w false (w.2.2.2.1.length:Nat))
  show qA R L w w false (w.2.2.2.1.length:Nat)=_
  rw[hq,jG (Ao _)];rfl) (fun i hlt=>by
  have hq:qA R L w w false i=_:=round (by kernel_rfl) (Ak3 R L w w false i)
  have:=h.q
  show qA R L w w false i=_
  rw[hq,lZ hlt,nn,tn,zO hlt,A8p _ (h.b _ (xK hlt)),zB (by omega)]
  simp only[Aj,Aa]
  cases aY (w.2.2.2.1.getD i [])<;>rfl) _ 0 rfl (by omega)
 rw[AK] at hl
 have hl:qA R L w w false 0=some (w.2.2.2.1.all aY,()):=hl
 rw[hl]
 unfold cJ
 show _=some (_&&(_&&(_&&(BH1 w&&_))),())
 have e:eqI (w.2.2.2.1.length:Int) (Ag .i64 (w.1.2.1.2.2.1 - w.1.2.1.1))=BH1 w:=rfl
 rw[e]
 generalize AM5 w.1=b1
 generalize At0 w.2.1=b2
 generalize Az8 w.2.1=b3
 generalize A5W w.2.2.1=b4
 generalize BH1 w=b5
 generalize w.2.2.2.1.all aY=b6
 generalize mG w.2.2.2.2.1=b7
 cases b1<;>cases b2<;>cases b3<;>cases b4<;>cases b5<;>cases b6<;>cases b7<;>rfl
theorem A7i (w:fC) (h:SmallW w):AI0 R w=some (cJ w,()):=by
 have hq:AI0 R w=_:=call (A7N R L w)
 have hq2:qO R w.1.2.1=_:=call (cR R L w.1.2.1)
 rw[hq,A7j,A2Y,BX2 _ h.m,A14 _ h.r,hq2,AQ5 w.2.2.2.1 _ aY h.q (fun s hs=>by rw[A6j,A7o _ (h.b s hs)];rfl)]
 simp only[Aa]
 have e:eqI (w.2.2.2.1.length:Int) (Ag .i64 (w.1.2.1.2.2.1 - w.1.2.1.1))=BH1 w:=rfl
 rw[e]
 unfold cJ
 generalize AM5 w.1=b1
 generalize (At0 w.2.1&&Az8 w.2.1)=b2
 generalize A5W w.2.2.1=b4
 generalize BH1 w=b5
 generalize w.2.2.2.1.all aY=b6
 generalize mG w.2.2.2.2.1=b7
 cases b1<;>cases b2<;>cases b4<;>cases b5<;>cases b6<;>cases b7<;>rfl
def dgt (n:Nat):List UInt8:=if n < 10 then [AH (48+n)] else dgt (n / 10)++[AH (48+n % 10)]
termination_by n
decreasing_by omega
theorem A1A {n:Nat} (h:n < 10):dgt n=[AH (48+n)]:=by rw[dgt];rw[Aw h]
theorem A9T {n:Nat} (h:¬ n < 10):dgt n=dgt (n / 10)++[AH (48+n % 10)]:=by rw[dgt];rw[Az h]
theorem A81:∀ (k n:Nat),n < 10 ^ (k+1)→(dgt n).length≤k+1
 | 0,n,h=>by rw[A1A (by simpa using h)];simp
 | k+1,n,h=>by
  by_cases hn:n < 10
  ·rw[A1A hn];simp
  ·rw[A9T hn,Ab]
   have:=A81 k (n / 10) (by rw[A9] at h;omega)
   simp;omega
theorem BX8:∀ (k n:Nat),n < 10 ^ (k+1)→∀ c ∈ dgt n,48≤c.toNat∧c.toNat≤57
 | 0,n,h,c,hc=>by
  have hn:n < 10:=by simpa using h
  rw[A1A hn] at hc
  simp only[A0] at hc
  subst hc
  rw[Ay]
  omega
 | k+1,n,h,c,hc=>by
  by_cases hn:n < 10
  ·rw[A1A hn] at hc
   simp only[A0] at hc
   subst hc
   rw[Ay]
   omega
  ·rw[A9T hn] at hc
   rcases A3.1 hc with hc|hc
   ·exact BX8 k (n / 10) (by rw[A9] at h;omega) c hc
   ·simp only[A0] at hc
    subst hc
    rw[Ay]
    omega
def B1s (l:List UInt8):Nat:=l.foldl (fun a c=>10 * a+(c.toNat - 48)) 0
theorem Bo1 (l:List UInt8) (c:UInt8):B1s (l++[c])=10 * B1s l+(c.toNat - 48):=by simp[B1s]
theorem A8E:∀ (k n:Nat),n < 10 ^ (k+1)→B1s (dgt n)=n
 | 0,n,h=>by
  have hn:n < 10:=by simpa using h
  rw[A1A hn]
  simp only[B1s,AX,Ba,Ay]
  omega
 | k+1,n,h=>by
  by_cases hn:n < 10
  ·rw[A1A hn]
   simp only[B1s,AX,Ba,Ay]
   omega
  ·rw[A9T hn,Bo1,A8E k (n / 10) (by rw[A9] at h;omega),Ay]
   omega
theorem B1F {n m:Nat} (hn:n < 10 ^ 19) (hm:m < 10 ^ 19) (h:dgt n=dgt m):n=m:=by
 rw[← A8E 18 n hn,← A8E 18 m hm,h]
theorem A3p {n:Int} (h1:0≤n) (h2:n < 256):Ag .u8 n=n:=by
 unfold Ag
 show (if (false&&_)=true then _ else n % 256)=n
 simp only[Bool.false_and,Bool.false_eq_true,if_false]
 omega
theorem Ak6:∀ (k n:Nat),n < 10 ^ (k+1)→n < 1000000000000000000→k≤20→mW R (n:Int)=some (dgt n,())
 | k,n,h,hb,hk=>by
  have hq:mW R (n:Int)=_:=call (A3Y R L (n:Int))
  rw[hq,yU,show decide ((n:Int)=-9223372036854775808)=false from Am (by omega),show decide ((n:Int) < 0)=false from Am (by omega)]
  simp only[Ai]
  by_cases hn:n < 10
  ·rw[show decide ((n:Int) < 10)=true from Aq (by omega),A1A hn,zI (by omega) (by omega),A3p (by omega) (by omega)]
   show some ([AH ((48+(n:Int)).toNat)],())=_
   rw[show (48+(n:Int)).toNat=48+n by omega]
  ·rw[show decide ((n:Int) < 10)=false from Am (by omega),A9T hn]
   simp only[Ai]
   rw[show Bc (n:Int) 10=((n / 10:Nat):Int) from rfl,zI (n:=((n / 10:Nat):Int)) (by omega) (by omega)]
   cases k with
   | zero=>exact absurd (by simpa using h) hn
   | succ k=>
    have hd:n / 10 < 10 ^ (k+1):=by rw[A9] at h;omega
    rw[Ak6 k (n / 10) hd (by omega) (by omega)]
    have hl:=A81 k (n / 10) hd
    simp only[Aa]
    rw[wF (by simp only[AW,Ae,Ak];omega),show Int.tmod (n:Int) 10=((n % 10:Nat):Int) from rfl,zI (n:=(48+((n % 10:Nat):Int))) (by omega) (by omega),A3p (by omega) (by omega)]
    show some (dgt (n / 10)++[AH ((48+((n % 10:Nat):Int)).toNat)],())=_
    rw[show (48+((n % 10:Nat):Int)).toNat=48+n % 10 by omega]
def BS0 (v:Int):List UInt8:=dgt v.toNat
theorem Bq3 {v:Int} (h0:0≤v) (h1:v < 1000000000000000000):mW R v=some (BS0 v,()):=by
 have e:v=((v.toNat:Nat):Int):=(Int.toNat_of_nonneg h0).symm
 have:=Ak6 18 v.toNat (by omega) (by omega) (by omega)
 rw[← e] at this
 exact this
theorem A9N {v:Int} (h1:v < 1000000000000000000):(BS0 v).length≤19:=A81 18 _ (by omega)
theorem Bk4 {v:Int} (h1:v < 1000000000000000000):∀ c ∈ BS0 v,48≤c.toNat∧c.toNat≤57:=BX8 18 _ (by omega)
theorem Bs8 {v u:Int} (h0:0≤v) (h1:v < 1000000000000000000) (h2:0≤u) (h3:u < 1000000000000000000) (h:BS0 v=BS0 u):v=u:=by
 have:=B1F (n:=v.toNat) (m:=u.toNat) (by omega) (by omega) h
 omega
def AE6:List (List UInt8):=[[111,107],[98,97,100],[108,111,110,103],[102,111,114,109],[114,97,110,103,101],[110,111,110,101],[109,97,110,121],[102,117,108,108],[115,105,122,101],[116,97,103],[116,97,109,112,101,114,101,100],[116,111,114,110],[115,116,97,115,104],[116,97,112,101],[99,104,101,99,107],[112,101,110,100,105,110,103],[100,111,119,110],[117,112],[115,112,101,110,116],[107,101,121]]
def A2L (c:Int):List UInt8:=AE6.getD c.toNat []
theorem A6u {c:Int} (h:inB c 0 19=true):AC0 R c=some (A2L c,()):=by
 have hb:=xR h
 have hq:AC0 R c=cond (decide (c < 0)) (some ([],())) (cond (decide (((AE6.length:Nat):Int)≤c)) (some ([],())) (cond (zA c) (cond (Nat.blt c.toNat AE6.length) (some (AE6.getD c.toNat [],())) none) none)):=call (A5u R L c)
 have hl:AE6.length=20:=rfl
 rw[hq,hl,Am (by omega),Am (by omega),show zA c=true from Aq hb.1,zO (by omega)]
 rfl
theorem A6U:∀ w ∈ AE6,∀ c ∈ w,97≤c.toNat:=by decide
theorem A9A:∀ w ∈ AE6,w.length≤8:=by decide
theorem A9j {c:Int} (h:inB c 0 19=true):A2L c ∈ AE6:=by
 have hb:=xR h
 exact xK (show c.toNat < 20 by omega)
theorem A80:∀ i j:Fin 20,AE6.getD i []=AE6.getD j []→i=j:=by decide
theorem Bf3 {c d:Int} (hc:inB c 0 19=true) (hd:inB d 0 19=true) (h:A2L c=A2L d):c=d:=by
 have h1:=xR hc
 have h2:=xR hd
 have:=A80 ⟨c.toNat,by omega⟩ ⟨d.toNat,by omega⟩ h
 have:=congrArg Fin.val this
 simp only at this
 omega
def BL4 (sep:List UInt8):List (List UInt8)→List UInt8
 | []=>[]
 | x :: xs=>x++(xs.map (sep++·)).flatten
theorem Bx6 {c:UInt8}:∀ {a b r s:List UInt8},c ∉ a→c ∉ b→a++c :: r=b++c :: s→a=b∧r=s
 | [],[],r,s,_,_,h=>by simpa using h
 | [],y :: b,r,s,_,hb,h=>by
  simp only[A2,AL,A8] at h
  exact absurd (h.1▸Ar ..) hb
 | x :: a,[],r,s,ha,_,h=>by
  simp only[A2,AL,A8] at h
  exact absurd (h.1▸Ar ..) ha
 | x :: a,y :: b,r,s,ha,hb,h=>by
  simp only[AL,A8] at h
  obtain⟨e,h⟩:=h
  subst e
  obtain⟨e1,e2⟩:=Bx6 (fun hm=>ha (Au _ hm)) (fun hm=>hb (Au _ hm)) h
  exact⟨by rw[e1],e2⟩
theorem BA3 {pre post:List UInt8} {c:UInt8} (hp:c ∉ pre):∀ {xs ys:List (List UInt8)},xs≠[]→ys≠[]→(∀ x ∈ xs,c ∉ x)→(∀ y ∈ ys,c ∉ y)→BL4 (pre++c :: post) xs=BL4 (pre++c :: post) ys→xs=ys
 | [],_,h,_,_,_,_=>absurd rfl h
 | _,[],_,h,_,_,_=>absurd rfl h
 | [x],[y],_,_,_,_,h=>by simpa[BL4] using h
 | [x],y :: y' :: ys,_,_,hx,_,h=>by
  exfalso
  have:c ∈ x:=by
   have e:BL4 (pre++c :: post) [x]=x:=by simp[BL4]
   rw[← e,h];simp[BL4]
  exact hx x (Ar ..) this
 | x :: x' :: xs,[y],_,_,_,hy,h=>by
  exfalso
  have:c ∈ y:=by
   have e:BL4 (pre++c :: post) [y]=y:=by simp[BL4]
   rw[← e,← h];simp[BL4]
  exact hy y (Ar ..) this
 | x :: x' :: xs,y :: y' :: ys,_,_,hx,hy,h=>by
  have e:∀ (z z':List UInt8) (zs:List (List UInt8)),BL4 (pre++c :: post) (z :: z' :: zs)=(z++pre)++c :: (post++BL4 (pre++c :: post) (z' :: zs)):=fun z z' zs=>by simp[BL4]
  rw[e,e] at h
  have hn:∀ (zs:List (List UInt8)),(∀ z ∈ zs,c ∉ z)→∀ z ∈ zs,c ∉ z++pre:=fun zs hz z hm hc=>by
   rcases A3.1 hc with h|h
   ·exact hz z hm h
   ·exact hp h
  obtain⟨h1,h2⟩:=Bx6 (hn _ hx x (Ar ..)) (hn _ hy y (Ar ..)) h
  have h3:=List.append_cancel_right h1
  have h4:=List.append_cancel_left h2
  have:=BA3 (xs:=x' :: xs) (ys:=y' :: ys) hp (by simp) (by simp) (fun z hz=>hx z (Au _ hz)) (fun z hz=>hy z (Au _ hz)) h4
  rw[h3,this]
theorem BQ2 {α γ:Type} {f:α→γ}:∀ {xs ys:List α},(∀ x ∈ xs,∀ y ∈ ys,f x=f y→x=y)→xs.map f=ys.map f→xs=ys
 | [],[],_,_=>rfl
 | [],_ :: _,_,h=>by simp at h
 | _ :: _,[],_,h=>by simp at h
 | x :: xs,y :: ys,hf,h=>by
  simp only[List.map_cons,A8] at h
  rw[hf x (Ar ..) y (Ar ..) h.1,BQ2 (fun a ha b hb=>hf a (Au _ ha) b (Au _ hb)) h.2]
def As2 (r:xI):List UInt8:=A2L r.1++(r.2.1.map fun v=>32 :: BS0 v).flatten
theorem At1 (r:xI):As2 r=BL4 ([]++(32:UInt8) :: []) (A2L r.1 :: r.2.1.map BS0):=by
 show A2L r.1++(r.2.1.map fun v=>32 :: BS0 v).flatten=A2L r.1++((r.2.1.map BS0).map fun z=>([]++(32:UInt8) :: [])++z).flatten
 rw[List.map_map];rfl
structure ResB (r:xI):Prop where
 c:inB r.1 0 19=true
 l:r.2.1.length≤32
 v:∀ n ∈ r.2.1,0≤n∧n≤999999
theorem B4b {r:xI} (h:AO7 r=true):ResB r:=by
 unfold AO7 at h
 simp only[Ah,A5,AD] at h
 exact⟨h.1,h.2.1,fun n hn=>xR (h.2.2.2 n hn)⟩
theorem A0k (r:xI) (h:ResB r):aT R r=some (As2 r,()):=by
 have hq:aT R r=_:=call (A7U R L r)
 rw[hq,A6u h.c]
 simp only[Aa]
 have hcl:=A9A _ (A9j h.c)
 refine BR8 (fun acc i=>pA R L r acc i) (fun acc=>some (acc,())) r.2.1 (0:Int) (fun v=>32 :: BS0 v) 8 20 (fun v hv=>?_) (fun acc ha=>?_) (fun acc i hlt ha=>?_) _ 0 (A2L r.1) rfl (Ap _) (by omega)
 ·have:=A9N (v:=v) (by have:=h.v v hv;omega)
  simp only[Ae];omega
 ·have hq:pA R L r acc (r.2.1.length:Nat)=_:=round (by kernel_rfl) (Ao0 R L r acc (r.2.1.length:Nat))
  show pA R L r acc (r.2.1.length:Nat)=_
  rw[hq,jG (Ao _)];rfl
 ·have hq:pA R L r acc i=_:=round (by kernel_rfl) (Ao0 R L r acc i)
  have hv:=h.v _ (xK (d:=(0:Int)) hlt)
  have hll:=h.l
  have hdl:=A9N (v:=r.2.1.getD i 0) (by omega)
  show pA R L r acc i=_
  rw[hq,lZ hlt,nn,tn,zO hlt,Bq3 hv.1 (by omega),zB (by omega)]
  simp only[Aj,Aa]
  rw[wF (by simp only[Ae,Ak];omega),wF (by simp only[Ab,Ae,Ak];omega)]
  rfl
theorem A7v {r s:xI} (hr:ResB r) (hs:ResB s) (h:As2 r=As2 s):r=s:=by
 rw[At1,At1] at h
 have nsp:∀ {z:xI},ResB z→∀ x ∈ A2L z.1 :: z.2.1.map BS0,(32:UInt8) ∉ x:=fun {z} hz x hx hm=>by
  rcases A7.1 hx with e|hx
  ·subst e
   have:=A6U _ (A9j hz.c) _ hm
   exact absurd this (by decide)
  ·obtain⟨v,hv,rfl⟩:=List.mem_map.1 hx
   have:=Bk4 (v:=v) (by have:=hz.v v hv;omega) _ hm
   exact absurd this.1 (by decide)
 have e:=BA3 (by simp) (by simp) (by simp) (nsp hr) (nsp hs) h
 simp only[A8] at e
 have e1:=Bf3 hr.c hs.c e.1
 have e2:=BQ2 (fun x hx y hy hxy=>Bs8 (hr.v x hx).1 (by have:=hr.v x hx;omega) (hs.v y hy).1 (by have:=hs.v y hy;omega) hxy) e.2
 obtain⟨r1,r2,r3⟩:=r
 obtain⟨s1,s2,s3⟩:=s
 simp only at e1 e2
 rw[e1,e2]
theorem B0B {l:List xI} (h:mG l=true):l.length≤2∧∀ r ∈ l,ResB r:=by
 unfold mG at h
 simp only[Ah,A5,AD] at h
 exact⟨h.1,fun r hr=>B4b (h.2 r hr)⟩
theorem A2D (a b:List xI) (ha:mG a=true) (hb:mG b=true):dA R a b=some (eqC a b,()):=by
 have hq:dA R a b=_:=call (A10 R L a b)
 obtain⟨la,ra⟩:=B0B ha
 obtain⟨lb,rb⟩:=B0B hb
 rw[hq,A1s]
 by_cases h:a.length=b.length
 ·rw[Aq h]
  simp only[Ad,Ai]
  have e:=A4U (β:=Unit) (fun _ i=>uV R L a b i) (fun _=>()) a b (0,([],())) (0,([],())) (fun r s=>eqC (As2 r) (As2 s)) h (fun _=>by
   have hq:uV R L a b (a.length:Nat)=_:=round (by kernel_rfl) (AN5 R L a b (a.length:Nat))
   show uV R L a b (a.length:Nat)=_
   rw[hq,jG (Ao _)];rfl) (fun _ i hlt=>by
   have hq:uV R L a b i=_:=round (by kernel_rfl) (AN5 R L a b i)
   show uV R L a b i=_
   rw[hq,lZ hlt,nn,tn,zO hlt,zO (n:=b.length) (by omega),A0k _ (ra _ (xK hlt)),A0k _ (rb _ (xK (by omega))),zB (by omega)]
   simp only[Aj,Aa,B2g]
   exact Ah6 _) _ 0 () rfl (Ap _)
  refine e.trans ?_
  rw[Av,Av,A4D (fun r hr s hs=>BR3 ⟨fun h=>A7v (ra r hr) (rb s hs) h,fun h=>by rw[h]⟩)]
 ·rw[Am h,A3m h];rfl
theorem A66 {α γ:Type} (F:Int→Option (Bool × Unit)) (x:List α) (y:List γ) (d:α) (e:γ) (p:α→γ→Bool) (z:Bool)
  (stop:F (x.length:Nat)=some (z,())) (step:∀ (i:Nat),i < x.length→F i=cond (p (x.getD i d) (y.getD i e)) (F ((i+1:Nat):Int)) (some (false,()))) (hl:x.length=y.length):
  ∀ (n i:Nat),x.length - i=n→i≤x.length→F i=some (By1 p (x.drop i) (y.drop i)&&z,())
 | 0,i,hn,hi=>by
  have:i=x.length:=by omega
  subst this
  rw[stop,Ac (Ao _),Ac (by omega)]
  rfl
 | n+1,i,hn,hi=>by
  rw[step i (by omega),yH (l:=x) (d:=d) (by omega),yH (l:=y) (d:=e) (by omega),A66 F x y d e p z stop step hl n (i+1) (by omega) (by omega)]
  show _=some (p (x.getD i d) (y.getD i e)&&_&&z,())
  cases p (x.getD i d) (y.getD i e)<;>simp
theorem BA6 {α:Type} {a b:α × Unit}:eqC a b=eqC a.1 b.1:=by
 rw[← A0D,Bn0,AK]
theorem B0c (a b:yE):(Bool.and (eqI a.1 b.1) (Bool.and (eqI a.2.1 b.2.1) true))=eqC a b:=by
 show (_&&(_&&true))=_
 rw[Br8,Br8,AK,← BA6 (a:=a.2),A0D]
theorem Ao4 (a b:xI) (h:a.2.1.length≤4611686018427387904):iA R a b=some (eqC a b,()):=by
 have hq:iA R a b=_:=call (As3 R L a b)
 rw[hq,aN _ _ h,← A0D,BA6 (a:=a.2),Br8]
 cases eqC a.1 b.1<;>rfl
theorem A1B (a b:List xI) (h:a.length≤4611686018427387904) (h2:∀ t ∈ a,t.2.1.length≤4611686018427387904):gS R a b=some (eqC a b,()):=by
 have hq:gS R a b=_:=call (A1H R L a b)
 rw[hq,rB a b _ (fun x y=>eqC x y) h (fun x hx y hy=>by rw[Ai6,Ao4 _ _ (h2 x hx)];rfl),A4D (fun _ _ _ _=>rfl)];rfl
end Go.Rf.S

end
section
namespace Go.Rf.S
set_option maxRecDepth 100000
abbrev E0:yE:=(0,(0,()))
def lo (key:Int):List yE→Nat
 | []=>0
 | e :: es=>if e.1 < key then lo key es+1 else 0
def fnd (key:Int) (m:List yE):Bool:=decide (lo key m < m.length)&&decide ((m.getD (lo key m) E0).1=key)
structure MI (m:List yE):Prop where
 srt:m.Pairwise fun a b=>a.1 < b.1
 keys:∀ e ∈ m,1≤e.1∧e.1≤9999
 vals:∀ e ∈ m,0≤e.2.1∧e.2.1≤999999
 len:m.length≤11
theorem BB8:∀ {m:List yE} {p:Option Int},A69 p m=true→(∀ e ∈ m,ltO p e.1=true∧(1≤e.1∧e.1≤9999)∧(0≤e.2.1∧e.2.1≤999999))∧m.Pairwise fun a b=>a.1 < b.1
 | [],_,_=>⟨by simp,.nil⟩
 | e :: es,p,h=>by
  simp only[A69,Ah] at h
  obtain⟨h1,h2,h3,h4⟩:=h
  obtain⟨q1,q2⟩:=BB8 h4
  refine⟨fun x hx=>?_,.cons (fun x hx=>?_) q2⟩
  ·rcases A7.1 hx with rfl|hx
   ·exact⟨h3,xR h1,xR h2⟩
   ·obtain⟨k1,k2,k3⟩:=q1 x hx
    refine⟨?_,k2,k3⟩
    have k1:e.1 < x.1:=by simpa[ltO] using k1
    cases p with
    | none=>rfl
    | some p=>
     have h3:p < e.1:=by simpa[ltO] using h3
     simp only[ltO,A5];omega
  ·have:=(q1 x hx).1
   simpa[ltO] using this
theorem B3b {m:List yE} (h:A5W m=true):MI m:=by
 unfold A5W at h
 rw[Ah] at h
 obtain⟨q1,q2⟩:=BB8 h.1
 exact⟨q2,fun e he=>(q1 e he).2.1,fun e he=>(q1 e he).2.2,by simpa using h.2⟩
theorem A7b {key:Int}:∀ {m:List yE},lo key m≤m.length
 | []=>Ao _
 | e :: es=>by
  unfold lo
  split
  ·have:=A7b (key:=key) (m:=es);simp only[Ae];omega
  ·omega
theorem Bq0 {key:Int}:∀ {m:List yE} {i:Nat},i < lo key m→(m.getD i E0).1 < key
 | [],i,h=>absurd h (AN _)
 | e :: es,i,h=>by
  unfold lo at h
  split at h
  ·rename_i he
   cases i with
   | zero=>exact he
   | succ i=>
    have:=Bq0 (m:=es) (i:=i) (key:=key) (by omega)
    simpa using this
  ·omega
theorem BD2 {key:Int}:∀ {m:List yE},lo key m < m.length→key≤(m.getD (lo key m) E0).1
 | [],h=>absurd h (AN _)
 | e :: es,h=>by
  unfold lo
  split
  ·rename_i he
   unfold lo at h
   rw[Aw he] at h
   have:=BD2 (m:=es) (key:=key) (by simp only[Ae] at h;omega)
   simpa using this
  ·rename_i he
   simp only[List.getD_cons_zero];omega
theorem Bx5 {m:List yE} (h:m.Pairwise fun a b=>a.1 < b.1) {i j:Nat} (hij:i < j) (hj:j < m.length):(m.getD i E0).1 < (m.getD j E0).1:=by
 have:=List.pairwise_iff_getElem.1 h i j (by omega) hj hij
 rw[Al,Al,At (by omega),At hj]
 exact this
theorem B3e {key:Int} {m:List yE} (h:m.Pairwise fun a b=>a.1 < b.1) {i:Nat} (hi:lo key m≤i) (hl:i < m.length):key≤(m.getD i E0).1:=by
 rcases Nat.eq_or_lt_of_le hi with e|e
 ·subst e;exact BD2 hl
 ·have:=Bx5 h e hl
  have:=BD2 (key:=key) (m:=m) (by omega)
  omega
theorem B2M {key:Int} {m:List yE} (h:m.Pairwise fun a b=>a.1 < b.1) {i:Nat} (hi:lo key m < i) (hl:i < m.length):key < (m.getD i E0).1:=by
 have:=Bx5 h hi hl
 have:=BD2 (key:=key) (m:=m) (by omega)
 omega
theorem B22 {key:Int} {m:List yE} (h:fnd key m=true):lo key m < m.length∧(m.getD (lo key m) E0).1=key:=by
 unfold fnd at h
 simpa using h
theorem B35 {key:Int} {m:List yE} (h:fnd key m=false):lo key m < m.length→(m.getD (lo key m) E0).1≠key:=by
 unfold fnd at h
 intro hl
 rw[Aq hl] at h
 simpa using h
theorem B2e {i j:Nat} (h:i+j≤1000):AI .i64 (Int.fdiv (AI .u64 (AI .i64 ((i:Int)+(j:Int)))) ((2:Int) ^ (Min.min (Int.toNat (1:Int)) (AY .u64))))=(((i+j) / 2:Nat):Int):=by
 rw[show (i:Int)+(j:Int)=((i+j:Nat):Int) by omega,zI (n:=((i+j:Nat):Int)) (by omega) (by omega)]
 have hu:AI .u64 ((i+j:Nat):Int)=((i+j:Nat):Int):=by
  show ((i+j:Nat):Int) % 18446744073709551616=_
  omega
 have h2:((2:Int) ^ (Min.min (Int.toNat (1:Int)) (AY .u64)))=2:=rfl
 rw[hu,h2]
 have h3:Int.fdiv ((i+j:Nat):Int) 2=(((i+j) / 2:Nat):Int):=by
  rw[Int.fdiv_eq_ediv_of_nonneg _ (by omega)];omega
 rw[h3,zI (by omega) (by omega)]
theorem Br7 (e:yE) (key:Int) (h1:0≤e.1∧e.1≤9999) (h2:0≤key∧key≤9999):A5H EE R (.mk 241 .nil) [⟨xZ,e⟩,⟨.int .i64,key⟩]=some (e.1 - key):=by
 rw[A7I]
 have hq:Ar8 R e key=_:=call (BH9 R L e key)
 rw[hq,zI (by omega) (by omega)];rfl
theorem BJ6 {a b:Nat} (h:a≤b):Nat.ble a b=true:=by rw[Nat.ble_eq];exact h
def A4q (m:List yE) (key v:Int):List yE:=m.take (lo key m)++(key,(v,())) :: m.drop (cond (fnd key m) (lo key m+1) (lo key m))
theorem A9m {m:List yE} {key v:Int}:(A4q m key v).length≤m.length+1:=by
 unfold A4q
 have:=A7b (key:=key) (m:=m)
 cases fnd key m<;>simp<;>omega
theorem A9t (m:List yE) (key v:Int) (hm:MI m):∀ (n:Nat) (i:Nat),lo key m - i=n→i≤lo key m→jR R L m key v i=some (A4q m key v,())
 | 0,i,hn,hi=>by
  have hlen:=hm.len
  have hll:=A7b (key:=key) (m:=m)
  have e:i=lo key m:=by omega
  have hq:jR R L m key v i=_:=round (by kernel_rfl) (At9 R L m key v i)
  subst e
  rw[hq]
  by_cases hlt:lo key m < m.length
  ·have hge:=BD2 (key:=key) hlt
   rw[lZ hlt,nn,tn,zO hlt,Am (p:=(m.getD (lo key m) (0,(0,()))).1 < key) (Int.not_lt.2 hge),BJ6 (Ao m.length),BJ6 hll,zB (by omega),nn,tn,BJ6 (show lo key m+1≤m.length by omega),yU]
   simp only[Aj,Ai]
   rw[wF (by simp;omega),wF (by simp;omega),wF (by simp;omega),wF (by simp;omega)]
   simp only[Aj]
   unfold A4q fnd
   rw[Aq hlt,A4]
   by_cases he:(m.getD (lo key m) E0).1=key
   ·rw[Aq he];simp
   ·rw[Am he];simp
  ·have hl2:lo key m=m.length:=by omega
   rw[jG (by omega),nn,tn,BJ6 (Ao m.length),BJ6 hll]
   simp only[Aj,Ai]
   rw[wF (by simp;omega),wF (by simp;omega),wF (by simp;omega)]
   simp only[Aj]
   unfold A4q fnd
   rw[Am hlt];simp
 | n+1,i,hn,hi=>by
  have hlen:=hm.len
  have hll:=A7b (key:=key) (m:=m)
  have hlt:i < m.length:=by omega
  have hq:jR R L m key v i=_:=round (by kernel_rfl) (At9 R L m key v i)
  rw[hq,lZ hlt,nn,tn,zO hlt,Aq (p:=(m.getD i (0,(0,()))).1 < key) (Bq0 (key:=key) (by omega)),zB (by omega)]
  exact A9t m key v hm n (i+1) (by omega) (by omega)
theorem BE2 (m:List yE) (key v:Int) (hm:MI m):AY1 R m key v=some (A4q m key v,()):=by
 have hq:AY1 R m key v=_:=call (BJ7 R L m key v)
 rw[hq]
 exact A9t m key v hm _ 0 rfl (Ap _)
def B0b (m:List yE) (key:Int):Bool:=!fnd key m&&decide (m.length=11)
theorem A7K {m:List yE} {key:Int} {a:yE} (h:a ∈ m.take (lo key m)):a.1 < key:=by
 obtain⟨i,hi,e⟩:=AQ h
 rw[Ax] at hi
 have:=Bq0 (key:=key) (m:=m) (i:=i) (by omega)
 rw[List.getElem_take] at e
 rw[Al,At (by omega),AV,e] at this
 exact this
theorem A09 {m:List yE} {key:Int} {a:yE} (hs:m.Pairwise fun a b=>a.1 < b.1) (h:a ∈ m.drop (cond (fnd key m) (lo key m+1) (lo key m))):key < a.1:=by
 obtain⟨i,hi,e⟩:=AQ h
 rw[A6] at hi
 rw[List.getElem_drop] at e
 have hl:(cond (fnd key m) (lo key m+1) (lo key m))+i < m.length:=by omega
 have e2:m.getD ((cond (fnd key m) (lo key m+1) (lo key m))+i) E0=a:=by
  rw[Al,At hl,AV,e]
 rw[← e2]
 cases hf:fnd key m with
 | true=>
  rw[hf] at hl
  exact B2M hs (by simp only[Aj];omega) hl
 | false=>
  rw[hf] at hl
  simp only[Ai] at hl ⊢
  cases i with
  | zero=>
   rw[Nat.add_zero] at hl ⊢
   have h1:=BD2 (key:=key) hl
   have h2:=B35 hf hl
   omega
  | succ i=>exact B2M hs (by omega) hl
theorem B1D {m:List yE} {key v:Int} (hm:MI m) (hk:1≤key∧key≤9999) (hv:0≤v∧v≤999999) (hf:B0b m key=false):MI (A4q m key v):=by
 have hmem:∀ e ∈ A4q m key v,e ∈ m∨e=(key,(v,())):=fun e he=>by
  unfold A4q at he
  rcases A3.1 he with h|h
  ·exact .inl (AG h)
  ·rcases A7.1 h with h|h
   ·exact .inr h
   ·exact .inl (AF h)
 refine⟨?_,fun e he=>?_,fun e he=>?_,?_⟩
 ·unfold A4q
  refine List.pairwise_append.2 ⟨hm.srt.sublist (List.take_sublist _ _),List.pairwise_cons.2 ⟨fun b hb=>A09 hm.srt hb,hm.srt.sublist (List.drop_sublist _ _)⟩,fun a ha b hb=>?_⟩
  have h1:=A7K ha
  rcases A7.1 hb with rfl|hb
  ·exact h1
  ·exact Int.lt_trans h1 (A09 hm.srt hb)
 ·rcases hmem e he with h|rfl
  ·exact hm.keys e h
  ·exact hk
 ·rcases hmem e he with h|rfl
  ·exact hm.vals e h
  ·exact hv
 ·have hlen:=hm.len
  have hll:=A7b (key:=key) (m:=m)
  unfold A4q
  unfold B0b at hf
  cases h:fnd key m with
  | true=>
   have:=(B22 h).1
   simp only[Aj,Ab,Ax,Ae,A6];omega
  | false=>
   rw[h] at hf
   have hf:m.length≠11:=by simpa using hf
   simp only[Ai,Ab,Ax,Ae,A6];omega
end Go.Rf.S

end
section
namespace Go.Rf.S
set_option maxRecDepth 100000
theorem A8O (m:List yE) (key:Int) (hm:MI m) (hk:1≤key∧key≤9999):∀ (n i j:Nat),j - i≤n→i≤lo key m→lo key m≤j→j≤m.length →
  zK R L m key (.mk 241 .nil) m.length i j=some (((lo key m:Nat):Int),(fnd key m,()))
 | n,i,j,hn,hi,hj,hl=>by
  have hlen:=hm.len
  have hq:zK R L m key (.mk 241 .nil) m.length i j=_:=round (by kernel_rfl) (pW R L m key (.mk 241 .nil) m.length i j)
  have cv:∀ t,t < m.length→A5H EE R (.mk 241 .nil) [⟨xZ,m.getD t E0⟩,⟨.int .i64,key⟩]=some ((m.getD t E0).1 - key):=fun t ht=>by
   have:=hm.keys _ (xK (d:=E0) ht)
   exact Br7 _ _ (by omega) (by omega)
  rw[hq]
  by_cases hlt:i < j
  ·have hmid:(i+j) / 2 < m.length:=by omega
   rw[lZ hlt,B2e (by omega),nn,tn,zO hmid]
   simp only[Aj]
   rw[cv _ hmid]
   simp only[Aa]
   cases n with
   | zero=>omega
   | succ n=>
    by_cases hless:(m.getD ((i+j) / 2) E0).1 < key
    ·rw[Aq (by omega),zB (by omega)]
     refine A8O m key hm hk n _ _ (by omega) ?_ hj hl
     rcases Nat.lt_or_ge ((i+j) / 2) (lo key m) with h|h
     ·omega
     ·have:=B3e (key:=key) hm.srt h hmid;omega
    ·rw[Am (by omega)]
     refine A8O m key hm hk n _ _ (by omega) hi ?_ (by omega)
     rcases Nat.lt_or_ge ((i+j) / 2) (lo key m) with h|h
     ·have:=Bq0 (key:=key) h;omega
     ·exact h
  ·have hij:i=lo key m:=by omega
   subst hij
   rw[jG (by omega)]
   simp only[Ai]
   by_cases hend:lo key m < m.length
   ·rw[lZ hend,nn,tn,zO hend]
    simp only[Aj]
    rw[cv _ hend]
    simp only[Aa,yU]
    unfold fnd
    rw[Aq hend,A4]
    congr 3
    exact AC.2 (by omega)
   ·rw[jG (by omega)]
    unfold fnd
    rw[Am hend];rfl
theorem Bt2 (m:List yE) (key:Int) (hm:MI m) (hk:1≤key∧key≤9999):A0W R m key=some (((lo key m:Nat):Int),(fnd key m,())):=by
 have hq:A0W R m key=_:=call (Bs6 R L m key)
 have hb:xV R m key (.mk 241 .nil)=_:=call (oN R L m key (.mk 241 .nil))
 have hl:=A8O m key hm hk m.length 0 m.length (by omega) (Ap _) A7b (Ao _)
 rw[hq,hb]
 exact congrArg (fun z:Option (Int × (Bool × Unit))=>z.bind fun r0=>some (r0.1,(r0.2.1,()))) hl
def A0R (id:Int):List DB→Int
 | []=>0
 | b :: r=>if b.1=id then b.2.2.1 else A0R id r
def B2m (id:Int) (l:List DB):Bool:=l.any fun b=>decide (b.1=id)
theorem A9u (id:Int):∀ (a b:List DB),A0R id (a++b)=cond (B2m id a) (A0R id a) (A0R id b)
 | [],_=>rfl
 | x :: a,b=>by
  show (if x.1=id then _ else A0R id (a++b))=cond (decide (x.1=id)|| B2m id a) (if x.1=id then _ else A0R id a) _
  by_cases h:x.1=id
  ·rw[Aw h,Aw h,Aq h];rfl
  ·rw[Az h,Az h,Am h,AE,A9u id a b]
theorem A8G {pos:List Int} (id:Int):∀ (a:List DB),a.all (A4h pos)=true→0≤A0R id a∧A0R id a≤999999
 | [],_=>⟨Int.le_refl _,by show (0:Int)≤999999;decide⟩
 | x :: a,h=>by
  rw[List.all_cons,Ah] at h
  show 0≤(if x.1=id then x.2.2.1 else A0R id a)∧(if x.1=id then x.2.2.1 else A0R id a)≤999999
  split
  ·have:=h.1
   unfold A4h at this
   simp only[Ah] at this
   exact xR this.2.2
  ·exact A8G id a h.2
theorem B3R (o:DO) (id:Int) (hl:o.2.2.1.length≤1048576) (hf:o.2.1.length+o.2.2.1.flatten.length≤1048576):iV R o id=some (A0R id (o.2.1++o.2.2.1.flatten),()):=by
 have ea:kR R o=some (o.2.1++o.2.2.1.flatten,()):=by
  rw[show kR R o=_ from call (Au4 R L o),Bb0 _ (by omega),BC4 _ hl (by omega)]
  simp (disch:=omega) only[st]
 have hal:(o.2.1++o.2.2.1.flatten).length≤1048576:=by rw[Ab];exact hf
 rw[show iV R o id=_ from call (Az6 R L o id),ea]
 simp only[Aa]
 generalize o.2.1++o.2.2.1.flatten=all at hal
 have loop:∀ (n i:Nat),all.length - i=n→i≤all.length→rJ R L id all (all.length:Int) (i:Int)=some (A0R id (all.drop i),()):=by
  intro n
  induction n with
  | zero=>
   intro i hn hi
   rw[show rJ R L id all (all.length:Int) (i:Int)=_ from round (by kernel_rfl) (AB9 R L id all (all.length:Int) (i:Int)),jG (by omega),Ac (by omega)];rfl
  | succ n ih=>
   intro i hn hi
   have hlt:i < all.length:=by omega
   rw[show rJ R L id all (all.length:Int) (i:Int)=_ from round (by kernel_rfl) (AB9 R L id all (all.length:Int) (i:Int)),lZ hlt,yH (d:=(0,(0,(0,())))) hlt,zB (by omega),tn,ih (i+1) (by omega) (by omega)]
   generalize all.getD i (0,(0,(0,())))=b
   simp (disch:=omega) only[st,yU]
   show _=some (if b.1=id then b.2.2.1 else A0R id (all.drop (i+1)),())
   by_cases h:b.1=id
   ·rw[dT h,Aw h];rfl
   ·rw[dF h,Az h];rfl
 exact loop _ 0 rfl (Ap _)
theorem Bx4 (id:Int) (o:DO) (i:Nat) (hi:i < o.2.2.1.length) (hil:o.2.2.1.length≤1000) (hl:(o.2.2.1.getD i []).length≤1048576):∀ (n k:Nat),(o.2.2.1.getD i []).length - k=n→k≤(o.2.2.1.getD i []).length →
  nN R L id o (i:Int) (k:Int)=cond (B2m id ((o.2.2.1.getD i []).drop k)) (some (A0R id ((o.2.2.1.getD i []).drop k),())) (pO R L id o ((i+1:Nat):Int))
 | 0,k,hn,hk=>by
  rw[show nN R L id o (i:Int) (k:Int)=_ from round (by kernel_rfl) (Aa6 R L id o (i:Int) (k:Int)),Ac (by omega),zB (by omega)]
  simp (disch:=omega) only[st,dF]
  rfl
 | n+1,k,hn,hk=>by
  have hlt:k < (o.2.2.1.getD i []).length:=by omega
  rw[show nN R L id o (i:Int) (k:Int)=_ from round (by kernel_rfl) (Aa6 R L id o (i:Int) (k:Int)),yH (d:=(0,(0,(0,())))) hlt,zB (i:=k) (by omega)]
  generalize hB:(o.2.2.1.getD i []).getD k (0,(0,(0,())))=b
  simp (disch:=omega) only[st,dT,hB,yU,Bx4 id o i hi hil hl n (k+1) (by omega) (by omega)]
  show _=cond (decide (b.1=id)|| B2m id ((o.2.2.1.getD i []).drop (k+1))) (some (if b.1=id then b.2.2.1 else A0R id ((o.2.2.1.getD i []).drop (k+1)),())) _
  by_cases h:b.1=id
  ·rw[dT h,Aw h];rfl
  ·rw[dF h,Az h,AE];rfl
theorem Bw2 (id:Int) (o:DO) (hil:o.2.2.1.length≤1000) (hl:∀ k ∈ o.2.2.1,k.length≤1048576):∀ (n i:Nat),o.2.2.1.length - i=n→i≤o.2.2.1.length→pO R L id o (i:Int)=some (A0R id ((o.2.2.1.drop i).flatten),())
 | 0,i,hn,hi=>by
  rw[show pO R L id o (i:Int)=_ from round (by kernel_rfl) (Ac8 R L id o (i:Int)),jG (by omega),Ac (by omega)];rfl
 | n+1,i,hn,hi=>by
  have hlt:i < o.2.2.1.length:=by omega
  rw[show pO R L id o (i:Int)=_ from round (by kernel_rfl) (Ac8 R L id o (i:Int)),lZ hlt]
  have e:=Bx4 id o i hlt hil (hl _ (xK hlt)) _ 0 rfl (Ap _)
  simp only[Aj]
  refine A1 e ?_
  rw[Bw2 id o hil hl n (i+1) (by omega) (by omega),Av,yH (d:=[]) hlt,AB,A9u]
  cases B2m id (o.2.2.1.getD i [])<;>rfl
theorem B3S (o:DO) (id:Int) (hs:o.2.1.length≤1048576) (hil:o.2.2.1.length≤1000) (hl:∀ k ∈ o.2.2.1,k.length≤1048576):AC6 R o id=some (A0R id (o.2.1++o.2.2.1.flatten),()):=by
 have loop:∀ (n i:Nat),o.2.1.length - i=n→i≤o.2.1.length→nO R L id o (i:Int)=some (A0R id (o.2.1.drop i++o.2.2.1.flatten),()):=by
  intro n
  induction n with
  | zero=>
   intro i hn hi
   rw[show nO R L id o (i:Int)=_ from round (by kernel_rfl) (Ab2 R L id o (i:Int)),jG (by omega),Ac (by omega)]
   exact Bw2 id o hil hl _ 0 rfl (Ap _)
  | succ n ih=>
   intro i hn hi
   have hlt:i < o.2.1.length:=by omega
   rw[show nO R L id o (i:Int)=_ from round (by kernel_rfl) (Ab2 R L id o (i:Int)),lZ hlt,yH (d:=(0,(0,(0,())))) hlt,zB (by omega),tn,ih (i+1) (by omega) (by omega)]
   generalize o.2.1.getD i (0,(0,(0,())))=b
   simp (disch:=omega) only[st,yU]
   show _=some (if b.1=id then b.2.2.1 else A0R id (o.2.1.drop (i+1)++o.2.2.1.flatten),())
   by_cases h:b.1=id
   ·rw[dT h,Aw h];rfl
   ·rw[dF h,Az h];rfl
 exact A1 (call (A5z R L o id):AC6 R o id=_) (loop _ 0 rfl (Ap _))
def B08 (all:List DB):List yE→Nat→List Int→List yE
 | m,_,[]=>m
 | m,id,k :: r=>B08 all (if 0 < k then A4q m k (A0R (id:Int) all) else m) (id+1) r
def Bw9 (e:DE):List yE:=B08 (e.2.1.2.1++e.2.1.2.2.1.flatten) [] 0 e.1
theorem B0p {key:Int} {m:List yE} (h:fnd key m=true):∃ a ∈ m,a.1=key:=by
 obtain⟨h1,h2⟩:=B22 h
 exact⟨_,xK h1,h2⟩
theorem BC1 {m:List yE} {k v:Int} (h:fnd k m=false):A4q m k v=m.take (lo k m)++(k,(v,())) :: m.drop (lo k m):=by
 unfold A4q;rw[h];rfl
structure EI (m:List yE) (seen:List Int) (id:Nat):Prop where
 mi:MI m
 len:m.length≤id
 key:∀ a ∈ m,AS3 seen a.1=true
theorem EI.put {m:List yE} {seen:List Int} {id:Nat} (h:EI m seen id) {k v:Int} (hk:1≤k∧k≤9999) (hv:0≤v∧v≤999999) (hs:AS3 seen k=false) (hi:id < 11):fnd k m=false∧EI (A4q m k v) (seen++[k]) (id+1):=by
 have hf:fnd k m=false:=by
  cases hf:fnd k m with
  | false=>rfl
  | true=>
   obtain⟨a,ha,e⟩:=B0p hf
   have:=h.key a ha
   rw[e,hs] at this;cases this
 have hl:=h.len
 refine⟨hf,B1D h.mi hk hv (by unfold B0b;rw[hf,Am (by omega)];rfl),AJ A9m (by omega),fun a ha=>?_⟩
 rw[AW2]
 rw[BC1 hf] at ha
 rcases A3.1 ha with ha|ha
 ·rw[h.key a (AG ha),AS]
 ·rcases A7.1 ha with rfl|ha
  ·have:AS3 [k] k=true:=by simp[AS3]
   rw[this,Bool.or_true]
  ·rw[h.key a (AF ha),AS]
theorem EI.same {m:List yE} {seen:List Int} {id:Nat} (h:EI m seen id):EI m seen (id+1):=⟨h.mi,Nat.le_succ_of_le h.len,h.key⟩
structure EB (e:DE):Prop where
 k:e.1.length=11
 ks:A4M [] e.1=true
 st:e.2.1.2.1.length≤12
 bl:e.2.1.2.2.1.length=15
 b2:∀ k ∈ e.2.1.2.2.1,k.length≤2
 vs:(e.2.1.2.1++e.2.1.2.2.1.flatten).all (A4h e.2.1.1)=true
theorem Be4 {pos:List Int}:∀ (l:List (List DB)) (i:Nat) (seen:List Int),bkS pos i seen l=true→∀ k ∈ l,k.length≤2
 | [],_,_,_=>fun _ h=>by cases h
 | a :: l,i,seen,h=>by
  rw[A9o] at h
  simp only[Ah,A5] at h
  intro k hk
  rcases A7.1 hk with rfl|hk
  ·exact h.1
  ·exact Be4 l _ _ h.2.2 k hk
theorem EB.of {e:DE} (h:AZ8 e=true):EB e:=by
 unfold AZ8 Az0 at h
 simp only[Ah,A5] at h
 obtain⟨h1,h2,h3,h4,h5,h6,h7,h8⟩:=h
 refine⟨h2,h1,h5,h6,Be4 _ _ _ h8,?_⟩
 rw[Bg3,Ah] at h8
 have e1:ids e.2.1.2.1=[]++ids e.2.1.2.1:=rfl
 have h9:=h8.2
 rw[e1] at h9
 exact A0g _ [] (by rw[A0Q,h7,h9];rfl)
theorem EB.flat {e:DE} (h:EB e):e.2.1.2.2.1.flatten.length≤30:=by
 have hh:∀ l:List (List DB),(∀ k ∈ l,k.length≤2)→l.flatten.length≤2 * l.length:=fun l=>by
  induction l with
  | nil=>exact fun _=>Ao _
  | cons a l ih=>
   intro hk
   have:=ih fun k hm=>hk k (Au _ hm)
   have:=hk a (Ar ..)
   rw[AB,Ab,Ae];omega
 have:=hh _ h.b2
 have:=h.bl
 omega
theorem Bb5 (m:List yE) (i:Nat) (e:yE) (hi:i≤m.length) (hl:m.length≤1000):oC R m i [e]=some (m.take i++e :: m.drop i,()):=by
 refine (BL6 (f:=174) rfl _).trans (A5N (E:=EE) (f:=174) (x:=(m.take i++e :: m.drop i,())) ?_ ?_)
 ·show cond (decide ((0:Int)≤(i:Int))&&(decide ((i:Int)≤(m.length:Int))&&(Nat.blt 0 1&&Nat.ble (m.length+1) 1099511627776))) (some ((m.take (i:Int).toNat++[e]++m.drop (i:Int).toNat:List yE),())) none=_
  rw[Aq (by omega),Aq (by omega),zO (by omega),BJ6 (by omega),tn]
  simp
  rfl
 ·have h:=Bg4 (E:=EE) (τ:=xZ) B4u ovI (f:=174) rfl Go.Proofs.Tryz.func174 (by kernel_rfl) (by kernel_rfl) rfl rfl (keep:=[]) (mv:=[]) m [e] i hi (Nat.zero_lt_one) (by show m.length+1≤_;omega)
  rw[An] at h
  exact h
theorem Bz7 {e:DE} (h:EB e):∀ (n i:Nat) (m:List yE) (seen:List Int),11 - i=n→i≤11→EI m seen i→A4M seen (e.1.drop i)=true→sH R L e m e.1 (e.1.length:Int) (i:Int)=some (B08 (e.2.1.2.1++e.2.1.2.2.1.flatten) m i (e.1.drop i),())
 | 0,i,m,seen,hn,hi,hE,hk=>by
  have:=h.k
  rw[show sH R L e m e.1 (e.1.length:Int) (i:Int)=_ from round (by kernel_rfl) (AG4 R L e m e.1 (e.1.length:Int) (i:Int)),jG (by omega),Ac (by omega)];rfl
 | n+1,i,m,seen,hn,hi,hE,hk=>by
  have h11:=h.k
  have hlt:i < e.1.length:=by omega
  have hml:=hE.len
  have hf:=h.flat
  have hst:=h.st
  rw[show sH R L e m e.1 (e.1.length:Int) (i:Int)=_ from round (by kernel_rfl) (AG4 R L e m e.1 (e.1.length:Int) (i:Int)),lZ hlt,yH (d:=0) hlt,zB (by omega),tn]
  rw[yH (d:=0) hlt,A08] at hk
  generalize e.1.getD i 0=k at hk
  simp (disch:=omega) only[st]
  show _=some (B08 (e.2.1.2.1++e.2.1.2.2.1.flatten) (if 0 < k then A4q m k (A0R (i:Int) (e.2.1.2.1++e.2.1.2.2.1.flatten)) else m) (i+1) (e.1.drop (i+1)),())
  by_cases h0:k=0
  ·subst h0
   rw[Aw rfl] at hk
   rw[dF (show ¬ (0:Int) < 0 by omega),Az (show ¬ (0:Int) < 0 by omega)]
   exact Bz7 h n (i+1) m seen (by omega) (by omega) hE.same hk
  ·rw[Az h0] at hk
   simp only[Ah,AT] at hk
   have hb:=xR hk.1.1
   obtain⟨hf1,hE'⟩:=hE.put hb (A8G (i:Int) _ h.vs) hk.1.2 (by omega)
   rw[dT (show (0:Int) < k by omega),Aw (show (0:Int) < k by omega),Bt2 m k hE.mi hb]
   simp only[Aj,Aa]
   rw[B3R e.2.1 (i:Int) (by rw[h.bl];decide) (by omega)]
   simp only[Aa]
   rw[Bb5 m (lo k m) _ A7b (by omega)]
   simp only[Aa]
   rw[← BC1 hf1]
   exact Bz7 h n (i+1) _ _ (by omega) (by omega) hE' hk.2
theorem B0y {e:DE} (h:EB e):∀ (n i:Nat) (m:List yE) (seen:List Int),11 - i=n→i≤11→EI m seen i→A4M seen (e.1.drop i)=true→mP R L e m (i:Int)=some (B08 (e.2.1.2.1++e.2.1.2.2.1.flatten) m i (e.1.drop i),())
 | 0,i,m,seen,hn,hi,hE,hk=>by
  have:=h.k
  rw[show mP R L e m (i:Int)=_ from round (by kernel_rfl) (Aw8 R L e m (i:Int)),jG (by omega),Ac (by omega)];rfl
 | n+1,i,m,seen,hn,hi,hE,hk=>by
  have h11:=h.k
  have hlt:i < e.1.length:=by omega
  have hml:=hE.len
  have hf:=h.flat
  have hst:=h.st
  rw[show mP R L e m (i:Int)=_ from round (by kernel_rfl) (Aw8 R L e m (i:Int)),lZ hlt,yH (d:=0) hlt,zB (by omega),tn]
  rw[yH (d:=0) hlt,A08] at hk
  generalize e.1.getD i 0=k at hk
  simp (disch:=omega) only[st]
  show _=some (B08 (e.2.1.2.1++e.2.1.2.2.1.flatten) (if 0 < k then A4q m k (A0R (i:Int) (e.2.1.2.1++e.2.1.2.2.1.flatten)) else m) (i+1) (e.1.drop (i+1)),())
  by_cases h0:k=0
  ·subst h0
   rw[Aw rfl] at hk
   rw[dF (show ¬ (0:Int) < 0 by omega),Az (show ¬ (0:Int) < 0 by omega)]
   exact B0y h n (i+1) m seen (by omega) (by omega) hE.same hk
  ·rw[Az h0] at hk
   simp only[Ah,AT] at hk
   have hb:=xR hk.1.1
   obtain⟨hf1,hE'⟩:=hE.put hb (A8G (i:Int) _ h.vs) hk.1.2 (by omega)
   rw[dT (show (0:Int) < k by omega),Aw (show (0:Int) < k by omega)]
   simp only[Aj]
   rw[B3S e.2.1 (i:Int) (by omega) (by rw[h.bl];decide) (fun k hk=>AJ (h.b2 k hk) (by decide))]
   simp only[Aa]
   rw[BE2 m k _ hE.mi]
   simp only[Aa]
   exact B0y h n (i+1) _ _ (by omega) (by omega) hE' hk.2
theorem EI0:EI [] [] 0:=⟨⟨.nil,(fun _ h=>nomatch h),(fun _ h=>nomatch h),by decide⟩,Ao _,(fun _ h=>nomatch h)⟩
theorem B2S {e:DE} (h:AZ8 e=true):fB R e=some (Bw9 e,())∧AW3 R e=some (Bw9 e,()):=by
 have hE:=EB.of h
 exact⟨A1 (call (A1g R L e):fB R e=_) (Bz7 hE 11 0 [] [] rfl (by decide) EI0 hE.ks),A1 (call (BF3 R L e):AW3 R e=_) (B0y hE 11 0 [] [] rfl (by decide) EI0 hE.ks)⟩
end Go.Rf.S

end
section
namespace Go.Rf.S
set_option maxRecDepth 100000
noncomputable def Bo5 (w:fC):Bool:=w.2.2.2.2.2.1&&(!(ldF w.1).2.2.1 || (eqC (Bw9 (ldF w.1).1) w.2.2.1&&eqC (ldF w.1).2.1 w.2.2.2.2.1))
theorem By0 {x:uO} (h:(ldF x).2.2.1=true):AZ8 (ldF x).1=true∧mG (ldF x).2.1=true:=by
 have hn:no3.2.2.1=true→False:=fun h=>by cases h
 unfold ldF at h ⊢
 by_cases h1:A44 (AA9 x)=x.2.1.2.2.2.2.2.2.1
 ·rw[Aw h1] at h ⊢
  by_cases h2:(hd x).2=true
  ·rw[Aw h2] at h ⊢
   by_cases h3:sOK (hd x).1=true
   ·rw[Aw h3] at h ⊢
    cases h4:ldB x 15 0 nob with
    | none=>rw[h4] at h;exact (hn h).elim
    | some bs=>
     rw[h4] at h
     have h5:=h3
     unfold sOK at h5
     simp only[Ah] at h5
     exact⟨h,h5.2.2⟩
   ·rw[Az h3] at h;exact (hn h).elim
  ·rw[Az h2] at h;exact (hn h).elim
 ·rw[Az h1] at h;exact (hn h).elim
theorem Bg8 {w:fC} (h:cJ w=true):SO w.1∧mG w.2.2.2.2.1=true∧w.2.2.1.length≤11:=by
 unfold cJ at h
 simp only[Ah] at h
 exact⟨SO.of h.1,h.2.2.2.2.2,(B3b h.2.2.1).len⟩
theorem Bm5 {l:List DR} (h:mG l=true):l.length≤2∧∀ r ∈ l,r.2.1.length≤32:=by
 obtain⟨h1,h2⟩:=B0B h
 exact⟨h1,fun r hr=>(h2 r hr).l⟩
theorem A9c {e:DE} (h:AZ8 e=true):(Bw9 e).length≤11:=by
 have hh:∀ (all:List DB) (ks:List Int) (m:List yE) (id:Nat),(B08 all m id ks).length≤m.length+ks.length:=fun all ks=>by
  induction ks with
  | nil=>exact fun m id=>Ao _
  | cons k r ih=>
   intro m id
   have:=ih (if 0 < k then A4q m k (A0R (id:Int) all) else m) (id+1)
   refine AJ this ?_
   have hp:=A9m (m:=m) (key:=k) (v:=A0R (id:Int) all)
   split<;>simp only[Ae]<;>omega
 have:=hh (e.2.1.2.1++e.2.1.2.2.1.flatten) e.1 [] 0
 have hk:=(EB.of h).k
 unfold Bw9
 simp only[Ak] at this
 omega
theorem B2o (w:fC) (hw:SmallW w):Ah9 R w=some (if cJ w=true then Bo5 w else false,(if cJ w=true then 0 else 1,())):=by
 rw[show Ah9 R w=_ from call (BZ0 R L w),A7i w hw]
 simp only[Aa]
 cases hk:cJ w with
 | false=>rfl
 | true=>
  obtain⟨hs,hr,hm⟩:=Bg8 hk
  simp only[Ad,Ai,if_true]
  rw[B2c hs]
  simp only[Aa]
  unfold Bo5
  cases w.2.2.2.2.2.1 with
  | false=>rfl
  | true=>
   simp only[Aj,A4]
   cases ho:(ldF w.1).2.2.1 with
   | false=>rfl
   | true=>
    obtain⟨he,hr2⟩:=By0 ho
    have hel:=A9c he
    obtain⟨l1,l2⟩:=Bm5 hr2
    simp only[Ad,Ai,AE]
    rw[(B2S he).1]
    simp only[Aa]
    rw[gD _ _ (by omega)]
    simp only[Aa]
    cases eqC (Bw9 (ldF w.1).1) w.2.2.1 with
    | false=>rfl
    | true=>
     simp only[Aj]
     rw[A1B _ _ (by omega) (fun r hr=>by have:=l2 r hr;omega)]
     rfl
theorem B2F (w:fC) (hw:SmallW w):Aj5 R w=some (if cJ w=true then Bo5 w else false,(if cJ w=true then 0 else 1,())):=by
 rw[show Aj5 R w=_ from call (BQ9 R L w),A7f w hw]
 simp only[Aa]
 cases hk:cJ w with
 | false=>rfl
 | true=>
  obtain⟨hs,hr,hm⟩:=Bg8 hk
  simp only[Ad,Ai,if_true]
  rw[show AS4 R w=_ from call (A42 R L w),B2h hs]
  simp only[Aa]
  unfold Bo5
  cases ha:w.2.2.2.2.2.1 with
  | false=>rfl
  | true=>
   simp only[Ad,Ai,A4]
   cases ho:(ldF w.1).2.2.1 with
   | false=>rfl
   | true=>
    obtain⟨he,hr2⟩:=By0 ho
    have hel:=A9c he
    simp only[Ad,Ai,AE]
    rw[(B2S he).2]
    simp only[Aa]
    rw[A1s]
    by_cases h:(Bw9 (ldF w.1).1).length=w.2.2.1.length
    ·rw[Aq h]
     simp only[Ad,Ai]
     have hres:=A2D _ _ hr2 hr
     generalize Bw9 (ldF w.1).1=m at h hel
     have loop:=A66 (fun i=>qF R L w (ldF w.1).2.1 m i) m w.2.2.1 (0,(0,())) (0,(0,())) (fun a b=>eqC a b) (eqC (ldF w.1).2.1 w.2.2.2.2.1) (by
      show qF R L w (ldF w.1).2.1 m (m.length:Nat)=_
      rw[show qF R L w (ldF w.1).2.1 m (m.length:Nat)=_ from round (by kernel_rfl) (Aa5 R L w (ldF w.1).2.1 m (m.length:Nat)),jG (Ao _),hres];rfl) (fun i hlt=>by
      show qF R L w (ldF w.1).2.1 m (i:Nat)=_
      rw[show qF R L w (ldF w.1).2.1 m (i:Nat)=_ from round (by kernel_rfl) (Aa5 R L w (ldF w.1).2.1 m (i:Nat)),lZ hlt,nn,tn,zO hlt,zO (n:=w.2.2.1.length) (by omega),zB (by omega),B0c]
      simp only[Aj]
      exact Ah6 _) h _ 0 rfl (Ap _)
     refine A1 (congrArg (fun z:Option (Bool × Unit)=>z.bind fun r1=>some (r1.1,(0,()))) loop) ?_
     rw[Av,Av,A4D (fun _ _ _ _=>rfl)]
     rfl
    ·rw[Am h,A3m h];rfl
theorem law_Holds (x:fC) (hx:AZ4 aU x):cO R x=some (true,()):=by
 rw[show cO R x=_ from call (Az4 R L x),Bl2 x 1048576 (by omega) (by omega) hx]
 by_cases h:cnt aU x≤1048576
 ·rw[dZ (by omega)]
  have hs:=B2O h
  have e1:=B2F x hs
  have e2:=B2o x hs
  simp (disch:=omega) only[st,dF,Bn2 x h,e1,e2,eqB,decide_true,Ad,Bt3 x h]
 ·rw[nV (by omega)];rfl
end Go.Rf.S

end
