/- What the program computes, in plain words: part 4. No condition. -/
import Derived.Test.YtcikhcfofnlegaaGreatRhC
import Derived.Below
import Derived.Shelf.Strings.Repeat
import Derived.WalkKit
import Derived.BigCall
import Derived.Test.YtcikhcfofnlegaaGreatProg
import Derived.Shelf.LaysM
import Derived.Shelf.Lays
import Derived.Maps.Own
import Derived.Maps.Views
import Derived.Shelf.SlLaysE0
import Derived.Shelf.Spec.SlicesInsertGrow
import Derived.Shelf.RegionOpenPlain
import Derived.Deep.RegionLaw
import Derived.Lib.Walk
import Derived.Lib.SliceRun
import Derived.Shelf.Spec.SlicesGrow
import Derived.Shelf.Slices.Reverse
import Derived.Deep.Upon
import Derived.Lib.JoinLaws
import Derived.Lib.Builder
open List renaming length_append->Aa,getElem?_append_left->Ae,getElem?_eq_some_iff->Ag,getElem?_eq_getElem->Ah,getD_eq_getElem?_getD->Ai,length->Ao,getElem?_append_right->Ap,length_take->As,all_cons->At,length_drop->Ay,ext_getElem?->Az,length_cons->A0,getElem?_take->A1,getElem?_drop->A2,replicate->A9,length_eq_zero_iff->AD,take_length->AN,flatten_append->AY,take_add_one->Bg,size_toArray->Bi,take_eq_take_min->Bs,getElem?_eq_none->Bt,mem_of_mem_drop->By,length_mapIdx->B6,append_assoc->B9,getElem?_set->BA,all_eq_true->BE,getElem_mem->BF,length_map->BJ,length_set->BK
open Go.Proofs.Tryz renaming prog->Ab,underlying120->A3,underlying3->AB,underlying4->AC,underlying0->AO,zeroValue0->AU,zeroValue3->AV,zeroValue4->AW,sizeOf0->Bn,sizeOf3->Bo,sizeOf4->Bp,isAgg0->Bu,isAgg3->Bv,isAgg4->Bw,underlying241->B7,underlying20->BB,underlying9->BG,zeroValue20->BH,zeroValue9->BL,sizeOf20->BO
open Nat renaming mul_le_mul_right->Ac,mul_add->Ak,mod_eq_of_lt->Am,add_mul->An,zero_le->A6,add_assoc->A8,lt_of_lt_of_le->AI,le_refl->AK,mul_left_comm->AL,and_two_pow_sub_one_eq_mod->AM,mul_assoc->AQ,one_mul->AS,not_lt_zero->AT,add_zero->AZ,lt_of_le_of_lt->Bb,sub_mul->Bh,le_trans->Bm,min_eq_left->Bq,min_def->Bx,mul_le_mul->B0,xor_lt_two_pow->B5,or_lt_two_pow->B8,le_of_eq->BC,and_le_left->BI,blt->BP,ble->BQ
open Go.Builtin renaming zeroCells->Ad,copy_->AG,append_->AH,firstCells->Bf,nextslicecap->Bz
open Bool renaming and_eq_true->Af,and_false->Av,false_and->AA,or_false->AR,and_true->Bj,true_and->B2,not_false->BM,and_assoc->BN
open _root_ renaming congrArg->Aj,if_pos->Aq,decide_eq_true->Ar,decide_eq_true_eq->Au,decide_eq_false->Ax,if_neg->A5
open Array renaming length_toList->Al,getElem?_toList->A4,size_append->A7,getElem?_modify->AE,getElem?_eq_getElem->AF,getElem?_push->AX,getElem?_eq_some_iff->Be,size_push->Br
open Go.IntKind renaming wrap->Aw,signed->A',bits->Bl
open Option renaming bind_eq_some_iff->AJ,toList_some->Bc
open Go.Extern.SlicesOverlaps renaming overlaps->AP
open BitVec renaming toNat_ofNat->Ba
open Go renaming sizeOf->Bk
open Int renaming toNat_of_nonneg->B1,toNat->BD
open Go.World renaming setCell->B3,frozen?->B4,shape?->BR
set_option linter.unusedVariables false
set_option linter.unusedSimpArgs false
section
namespace Go.Rf
set_option linter.unusedSectionVars false
variable [T:Laid]
theorem Ar7 (n a:Nat):BitVec.ofInt n (a:Int)=BitVec.ofNat n a:=by
 apply BitVec.eq_of_toNat_eq
 simp
theorem Bm6 (n:Int):Aw .u32 n=n % 4294967296:=by
 unfold Aw
 simp[A',Bl]
theorem A3p (n:Int):Aw .u8 n=n % 256:=by
 unfold Aw
 simp[A',Bl]
theorem A3b (n:Int):Aw .u64 n=n % 18446744073709551616:=by
 unfold Aw
 simp[A',Bl]
theorem A0v (n:Nat):Aw .u32 (n:Int)=((n % 4294967296:Nat):Int):=by rw[Bm6];omega
theorem qK (n:Nat):Aw .u8 (n:Int)=((n % 256:Nat):Int):=by rw[A3p];omega
theorem qP {n:Nat} (h:n < 9223372036854775808):Aw .i64 (n:Int)=(n:Int):=zI (by omega) (by omega)
def qH:IntKind→Nat
 | .i8=>128|.i16=>32768|.i32=>2147483648|.i64=>9223372036854775808
 | .u8=>256|.u16=>65536|.u32=>4294967296|.u64=>18446744073709551616
theorem A8i (k:IntKind):qH k≤2 ^ k.bits:=by cases k<;>decide
theorem Ak0 {k:IntKind} {n:Nat} (h:n < qH k):Aw k (n:Int)=(n:Int):=by
 cases k<;>simp only[qH] at h<;>(unfold Aw;simp[A',Bl])<;>omega
theorem Bw6 (k:IntKind):∃ e,qH k=2 ^ e:=by
 cases k
 ·exact⟨7,rfl⟩
 ·exact⟨15,rfl⟩
 ·exact⟨31,rfl⟩
 ·exact⟨63,rfl⟩
 ·exact⟨8,rfl⟩
 ·exact⟨16,rfl⟩
 ·exact⟨32,rfl⟩
 ·exact⟨64,rfl⟩
theorem Ae8 {k:IntKind} {a b:Nat} (ha:a < qH k) (hb:b < qH k):wB .and k (a:Int) (b:Int)=((a &&& b:Nat):Int):=by
 have h:=A8i k
 unfold wB
 simp only[Ar7,BitVec.toNat_and,Ba]
 rw[Am (by omega),Am (by omega),Ak0 (Bb BI ha)]
theorem Au5 {k:IntKind} {a b:Nat} (ha:a < qH k) (hb:b < qH k):wB .or k (a:Int) (b:Int)=((a ||| b:Nat):Int):=by
 have h:=A8i k
 obtain⟨e,he⟩:=Bw6 k
 unfold wB
 simp only[Ar7,BitVec.toNat_or,Ba]
 rw[Am (by omega),Am (by omega),Ak0 (by rw[he] at ha hb ⊢;exact B8 ha hb)]
theorem A3c {k:IntKind} {a b:Nat} (ha:a < qH k) (hb:b < qH k):wB .xor k (a:Int) (b:Int)=((a ^^^ b:Nat):Int):=by
 have h:=A8i k
 obtain⟨e,he⟩:=Bw6 k
 unfold wB
 simp only[Ar7,BitVec.toNat_xor,Ba]
 rw[Am (by omega),Am (by omega),Ak0 (by rw[he] at ha hb ⊢;exact B5 ha hb)]
theorem fI (a n:Nat):Int.fdiv (a:Int) (2 ^ n:Int)=((a / 2 ^ n:Nat):Int):=by
 have:(2 ^ n:Int)=((2 ^ n:Nat):Int):=by simp
 rw[this];exact (Int.ofNat_fdiv a (2 ^ n)).symm
theorem BH7 (a n:Nat):(a:Int) * (2 ^ n:Int)=((a * 2 ^ n:Nat):Int):=by simp
theorem B1E (a:Nat):a &&& 4294967295=a % 4294967296:=AM a 32
theorem BO9 (a:Nat):a &&& 67108863=a % 67108864:=AM a 26
end Go.Rf

end
section
namespace Go.Rf
set_option linter.unusedSectionVars false
variable [T:Laid]
def vM {α:Type} (f:Nat→α→α):(n i:Nat)→α→α
 | 0,_,a=>a
 | n+1,i,a=>vM f n (i+1) (f i a)
theorem Bg9 {α γ:Type} (F:α→Int→Option γ) (f:Nat→α→α) (Inv:Nat→α→Prop) (n:Nat) (K:α→Option γ)
  (stop:∀ a,Inv n a→F a (n:Nat)=K a) (step:∀ a i,i < n→Inv i a→F a (i:Nat)=F (f i a) ((i+1:Nat):Int)∧Inv (i+1) (f i a)):
  ∀ (m i:Nat) (a:α),n - i=m→i≤n→Inv i a→F a i=K (vM f m i a)∧Inv n (vM f m i a)
 | 0,i,a,hm,hi,ha=>by
  have:i=n:=by omega
  subst this
  exact⟨stop a ha,ha⟩
 | m+1,i,a,hm,hi,ha=>by
  obtain⟨h1,h2⟩:=step a i (by omega) ha
  obtain⟨h3,h4⟩:=Bg9 F f Inv n K stop step m (i+1) (f i a) (by omega) (by omega) h2
  exact⟨h1.trans h3,h4⟩
theorem yX {α γ:Type} (F:α→Int→Option γ) (f:Nat→α→α) (Inv:Nat→α→Prop) (n:Nat) (K:α→Option γ)
  (stop:∀ a,Inv n a→F a (n:Nat)=K a) (step:∀ a i,i < n→Inv i a→F a (i:Nat)=F (f i a) ((i+1:Nat):Int)∧Inv (i+1) (f i a)) (a:α) (ha:Inv 0 a):
  F a 0=K (vM f n 0 a)∧Inv n (vM f n 0 a):=Bg9 F f Inv n K stop step n 0 a rfl (A6 _) ha
def cl (l:List Nat):List Int:=List.map (fun (x:Nat)=>(x:Int)) l
theorem cH (l:List Nat):(cl l).length=l.length:=by unfold cl;exact BJ _
theorem yT (l:List Nat) (i:Nat):(cl l).getD i (0:Int)=((l.getD i 0:Nat):Int):=by
 unfold cl
 rw[Ai,Ai,List.getElem?_map]
 cases l[i]?<;>rfl
theorem rE (l:List Nat) (i a:Nat):(cl l).set i (a:Int)=cl (l.set i a):=by
 unfold cl
 rw[List.map_set]
def Bd (B:Nat) (l:List Nat):Prop:=∀ x ∈ l,x < B
theorem Bd.get {B:Nat} {l:List Nat} (h:Bd B l) (hB:0 < B) (i:Nat):l.getD i 0 < B:=by
 rw[Ai]
 cases e:l[i]? with
 | none=>exact hB
 | some x=>exact h x (List.mem_of_getElem? e)
theorem Bd.set {B:Nat} {l:List Nat} (h:Bd B l) {i a:Nat} (ha:a < B):Bd B (l.set i a):=fun x hx=>by
 rcases List.mem_or_eq_of_mem_set hx with hx|rfl
 ·exact h x hx
 ·exact ha
theorem Bd.rep {B n:Nat} (hB:0 < B):Bd B (A9 n 0):=fun x hx=>by
 rw[(List.mem_replicate.1 hx).2];exact hB
end Go.Rf

end
section
namespace Go.Rf
set_option linter.unusedSectionVars false
variable [T:Laid]
def PP:Nat:=1361129467683753853853498429727072845819
def val (a b c d e:Nat):Nat:=a+67108864 * b+4503599627370496 * c+302231454903657293676544 * d+20282409603651670423947251286016 * e
def car (a b c d e : Nat) : List Nat :=
  [a % 67108864 + 5 * ((e + (d + (c + (b + a / 67108864) / 67108864) / 67108864) / 67108864) / 67108864),
   (b + a / 67108864) % 67108864,
   (c + (b + a / 67108864) / 67108864) % 67108864,
   (d + (c + (b + a / 67108864) / 67108864) / 67108864) % 67108864,
   (e + (d + (c + (b + a / 67108864) / 67108864) / 67108864) / 67108864) % 67108864]
theorem A8Q (a b c d e:Nat):∃ a' b' c' d' e' q,car a b c d e=[a',b',c',d',e']∧val a' b' c' d' e'+q * PP=val a b c d e ∧
  b' < 67108864∧c' < 67108864∧d' < 67108864∧e' < 67108864 ∧
  q=(e+(d+(c+(b+a / 67108864) / 67108864) / 67108864) / 67108864) / 67108864∧a'=a % 67108864+5 * q:=by
 refine⟨_,_,_,_,_,(e+(d+(c+(b+a / 67108864) / 67108864) / 67108864) / 67108864) / 67108864,rfl,?_,?_,?_,?_,?_,rfl,rfl⟩
 ·unfold val PP
  generalize h1:b+a / 67108864=b1
  generalize h2:c+b1 / 67108864=c1
  generalize h3:d+c1 / 67108864=d1
  generalize h4:e+d1 / 67108864=e1
  omega
 all_goals exact Nat.mod_lt _ (by decide)
theorem B4f (a b c d e:Nat) (ha:a < 288230376151711744) (hb:b < 288230376151711744) (hc:c < 288230376151711744) (hd:d < 288230376151711744) (he:e < 288230376151711744):
  ∃ a1 b1 c1 d1 e1 a2 b2 c2 d2 e2 a3 b3 c3 d3 e3,car a b c d e=[a1,b1,c1,d1,e1]∧car a1 b1 c1 d1 e1=[a2,b2,c2,d2,e2]∧car a2 b2 c2 d2 e2=[a3,b3,c3,d3,e3] ∧
   val a3 b3 c3 d3 e3 % PP=val a b c d e % PP∧a3 < 67108864∧b3 < 67108864∧c3 < 67108864∧d3 < 67108864∧e3 < 67108864 ∧
   a1 < 1152921504606846976∧b1 < 67108864∧c1 < 67108864∧d1 < 67108864∧e1 < 67108864∧a2 < 1152921504606846976∧b2 < 67108864∧c2 < 67108864∧d2 < 67108864∧e2 < 67108864:=by
 obtain⟨a1,b1,c1,d1,e1,q1,h1,v1,hb1,hc1,hd1,he1,hq1,ha1⟩:=A8Q a b c d e
 obtain⟨a2,b2,c2,d2,e2,q2,h2,v2,hb2,hc2,hd2,he2,hq2,ha2⟩:=A8Q a1 b1 c1 d1 e1
 obtain⟨a3,b3,c3,d3,e3,q3,h3,v3,hb3,hc3,hd3,he3,hq3,ha3⟩:=A8Q a2 b2 c2 d2 e2
 have hq1':q1 < 8589934592:=by rw[hq1];omega
 have ha1':a1 < 67108864+5 * 8589934592:=by omega
 have hq2':q2≤1:=by rw[hq2];omega
 have ha2':a2 < 67108864+5:=by omega
 have ha3':a3 < 67108864:=by
  rcases Nat.lt_or_ge a2 67108864 with h|h
  ·have:q3=0:=by rw[hq3];omega
   omega
  ·have:q3≤1:=by rw[hq3];omega
   omega
 refine⟨a1,b1,c1,d1,e1,a2,b2,c2,d2,e2,a3,b3,c3,d3,e3,h1,h2,h3,?_,ha3',hb3,hc3,hd3,he3,by omega,hb1,hc1,hd1,he1,by omega,hb2,hc2,hd2,he2⟩
 rw[← v1,← v2,← v3]
 simp[Nat.add_mul_mod_self_right]
theorem B2l {a b c d e:Nat} (ha:a < 67108864) (hb:b < 67108864) (hc:c < 67108864) (hd:d < 67108864) (he:e < 67108864):car a b c d e=[a,b,c,d,e]:=by
 unfold car
 rw[show a / 67108864=0 by omega,AZ,show b / 67108864=0 by omega,AZ,show c / 67108864=0 by omega,AZ,show d / 67108864=0 by omega,AZ,show e / 67108864=0 by omega,
  Am ha,Am hb,Am hc,Am hd,Am he,Nat.mul_zero,AZ]
theorem sc (α β x y:Nat):(α * x) * (β * y)=(α * β) * (x * y):=Nat.mul_mul_mul_comm α x β y
theorem Bz6 (x0 x1 x2 x3 x4 y0 y1 y2 y3 y4:Nat):∃ q,val x0 x1 x2 x3 x4 * val y0 y1 y2 y3 y4 =
  val (x0 * y0+5 * (x1 * y4)+5 * (x2 * y3)+5 * (x3 * y2)+5 * (x4 * y1)) (x0 * y1+x1 * y0+5 * (x2 * y4)+5 * (x3 * y3)+5 * (x4 * y2))
   (x0 * y2+x1 * y1+x2 * y0+5 * (x3 * y4)+5 * (x4 * y3)) (x0 * y3+x1 * y2+x2 * y1+x3 * y0+5 * (x4 * y4)) (x0 * y4+x1 * y3+x2 * y2+x3 * y1+x4 * y0)+q * PP:=by
 refine⟨(x1 * y4+x2 * y3+x3 * y2+x4 * y1)+67108864 * (x2 * y4+x3 * y3+x4 * y2)+4503599627370496 * (x3 * y4+x4 * y3)+302231454903657293676544 * (x4 * y4),?_⟩
 unfold val PP
 have e:(x0+67108864 * x1+4503599627370496 * x2+302231454903657293676544 * x3+20282409603651670423947251286016 * x4) * (y0+67108864 * y1+4503599627370496 * y2+302231454903657293676544 * y3+20282409603651670423947251286016 * y4) =
   (x0 * y0)+67108864 * (x0 * y1)+4503599627370496 * (x0 * y2)+302231454903657293676544 * (x0 * y3)+20282409603651670423947251286016 * (x0 * y4)
   + (67108864 * (x1 * y0)+(67108864 * 67108864) * (x1 * y1)+(67108864 * 4503599627370496) * (x1 * y2)+(67108864 * 302231454903657293676544) * (x1 * y3)+(67108864 * 20282409603651670423947251286016) * (x1 * y4))
   + (4503599627370496 * (x2 * y0)+(4503599627370496 * 67108864) * (x2 * y1)+(4503599627370496 * 4503599627370496) * (x2 * y2)+(4503599627370496 * 302231454903657293676544) * (x2 * y3)+(4503599627370496 * 20282409603651670423947251286016) * (x2 * y4))
   + (302231454903657293676544 * (x3 * y0)+(302231454903657293676544 * 67108864) * (x3 * y1)+(302231454903657293676544 * 4503599627370496) * (x3 * y2)+(302231454903657293676544 * 302231454903657293676544) * (x3 * y3)+(302231454903657293676544 * 20282409603651670423947251286016) * (x3 * y4))
   + (20282409603651670423947251286016 * (x4 * y0)+(20282409603651670423947251286016 * 67108864) * (x4 * y1)+(20282409603651670423947251286016 * 4503599627370496) * (x4 * y2)+(20282409603651670423947251286016 * 302231454903657293676544) * (x4 * y3)+(20282409603651670423947251286016 * 20282409603651670423947251286016) * (x4 * y4)):=by
  rw[An,An,An,An]
  congr 1
  ·congr 1
   ·congr 1
    ·congr 1
     ·rw[Ak,Ak,Ak,Ak,AL x0,AL x0,AL x0,AL x0]
     ·rw[Ak,Ak,Ak,Ak,sc _ _ x1 y1,sc _ _ x1 y2,sc _ _ x1 y3,sc _ _ x1 y4,AQ _ x1 y0]
    ·rw[Ak,Ak,Ak,Ak,sc _ _ x2 y1,sc _ _ x2 y2,sc _ _ x2 y3,sc _ _ x2 y4,AQ _ x2 y0]
   ·rw[Ak,Ak,Ak,Ak,sc _ _ x3 y1,sc _ _ x3 y2,sc _ _ x3 y3,sc _ _ x3 y4,AQ _ x3 y0]
  ·rw[Ak,Ak,Ak,Ak,sc _ _ x4 y1,sc _ _ x4 y2,sc _ _ x4 y3,sc _ _ x4 y4,AQ _ x4 y0]
 rw[e]
 generalize x0 * y0=p00;generalize x0 * y1=p01;generalize x0 * y2=p02;generalize x0 * y3=p03;generalize x0 * y4=p04
 generalize x1 * y0=p10;generalize x1 * y1=p11;generalize x1 * y2=p12;generalize x1 * y3=p13;generalize x1 * y4=p14
 generalize x2 * y0=p20;generalize x2 * y1=p21;generalize x2 * y2=p22;generalize x2 * y3=p23;generalize x2 * y4=p24
 generalize x3 * y0=p30;generalize x3 * y1=p31;generalize x3 * y2=p32;generalize x3 * y3=p33;generalize x3 * y4=p34
 generalize x4 * y0=p40;generalize x4 * y1=p41;generalize x4 * y2=p42;generalize x4 * y3=p43;generalize x4 * y4=p44
 clear e
 omega
def leV:List UInt8→Nat
 | []=>0
 | c :: cs=>c.toNat+256 * leV cs
theorem A9q:∀ (l:List UInt8),leV l < 256 ^ l.length
 | []=>by simp[leV]
 | c :: cs=>by
  have:=A9q cs
  have hc:=c.toNat_lt
  simp only[leV,A0,Nat.pow_succ]
  omega
theorem AY6:∀ (a b:List UInt8),leV (a++b)=leV a+256 ^ a.length * leV b
 | [],b=>by simp[leV]
 | c :: cs,b=>by
  simp only[List.cons_append,leV,AY6 cs b,A0,Nat.pow_succ,Ak]
  rw[show 256 ^ cs.length * 256 * leV b=256 * (256 ^ cs.length * leV b) by rw[Nat.mul_comm (256 ^ cs.length) 256,AQ]]
  omega
theorem A52:∀ (n:Nat),leV (A9 n 0)=0
 | 0=>rfl
 | n+1=>by simp[List.replicate_succ,leV,A52 n]
def L5 (n:Nat):List Nat:=[n % 67108864,n / 67108864 % 67108864,n / 4503599627370496 % 67108864,n / 302231454903657293676544 % 67108864,n / 20282409603651670423947251286016 % 67108864]
theorem Bz2 {n:Nat} (h:n < 1361129467683753853853498429727072845824):val (n % 67108864) (n / 67108864 % 67108864) (n / 4503599627370496 % 67108864) (n / 302231454903657293676544 % 67108864) (n / 20282409603651670423947251286016 % 67108864)=n:=by
 unfold val;omega
theorem Bp1 {a b c d e:Nat} (ha:a < 67108864) (hb:b < 67108864) (hc:c < 67108864) (hd:d < 67108864) (he:e < 67108864):L5 (val a b c d e)=[a,b,c,d,e]:=by
 unfold L5 val
 congr 1
 ·omega
 ·congr 1
  ·omega
  ·congr 1
   ·omega
   ·congr 1
    ·omega
    ·congr 1;omega
theorem B2A {a b c d e:Nat} (ha:a < 67108864) (hb:b < 67108864) (hc:c < 67108864) (hd:d < 67108864) (he:e < 67108864):val a b c d e < 1361129467683753853853498429727072845824:=by
 unfold val;omega
theorem B23 {x y:Nat} (hx:x < 1361129467683753853853498429727072845824) (hy:y < 1361129467683753853853498429727072845824) (h:x % PP=y % PP):(if PP≤x then x - PP else x)=(if PP≤y then y - PP else y):=by
 have e:∀ z,z < 1361129467683753853853498429727072845824→(if PP≤z then z - PP else z)=z % PP:=fun z hz=>by
  unfold PP at *
  split<;>omega
 rw[e x hx,e y hy,h]
end Go.Rf

end
section
namespace Go.Rf
set_option linter.unusedSectionVars false
variable [T:Laid]
theorem By6 (a b:Nat):(a ||| b) % 4294967296=(a % 4294967296)||| (b % 4294967296):=Nat.or_mod_two_pow (n:=32)
theorem eF {a b:Nat} (ha:a < 4294967296) (hb:b < 4294967296):a ||| b < 4294967296:=B8 (n:=32) ha hb
theorem wD {a b:Nat} (ha:a < 4294967296) (hb:b < 4294967296):a ^^^ b < 4294967296:=B5 (n:=32) ha hb
theorem iY {a b:Nat} (ha:a < 4294967296):a &&& b < 4294967296:=Bb BI ha
theorem vY (a:Nat):a % 4294967296 < 4294967296:=Nat.mod_lt _ (by decide)
theorem jM {a:Nat} (n:Nat) (ha:a < 4294967296):a / n < 4294967296:=Bb (Nat.div_le_self _ _) ha
def rl (s x:Nat):Nat:=(x * 2 ^ s % 4294967296)||| (x / 2 ^ (32 - s))
theorem A2T {s x:Nat} (hx:x < 4294967296):rl s x < 4294967296:=eF (vY _) (jM _ hx)
def rr (n x:Nat):Nat:=rl (32 - n) x
theorem eB {s x:Nat} (hx:x < 4294967296):rr s x < 4294967296:=A2T hx
theorem B1B {n x:Nat} (hn:n≤32) (hx:x < 4294967296):(x / 2 ^ n ||| x * 2 ^ (32 - n)) % 4294967296=rr n x:=by
 rw[By6,Am (jM _ hx),Nat.or_comm]
 unfold rr rl
 rw[show 32 - (32 - n)=n by omega]
theorem Bz9 {n x:Nat} (hx:x < 4294967296):(x * 2 ^ n ||| x / 2 ^ (32 - n)) % 4294967296=rl n x:=by
 rw[By6,Am (jM _ hx)];rfl
def g0 (x:Nat):Nat:=rr 7 x ^^^ rr 18 x ^^^ x / 2 ^ 3
def g1 (x:Nat):Nat:=rr 17 x ^^^ rr 19 x ^^^ x / 2 ^ 10
def S1 (e:Nat):Nat:=rr 6 e ^^^ rr 11 e ^^^ rr 25 e
def S0 (a:Nat):Nat:=rr 2 a ^^^ rr 13 a ^^^ rr 22 a
def ch (e f g:Nat):Nat:=(e &&& f) ^^^ ((4294967295 ^^^ e) &&& g)
def mj (a b c:Nat):Nat:=(a &&& b) ^^^ (a &&& c) ^^^ (b &&& c)
theorem B3r {x:Nat} (h:x < 4294967296):g0 x < 4294967296:=wD (wD (eB h) (eB h)) (jM _ h)
theorem B3p {x:Nat} (h:x < 4294967296):g1 x < 4294967296:=wD (wD (eB h) (eB h)) (jM _ h)
theorem B3W {x:Nat} (h:x < 4294967296):S1 x < 4294967296:=wD (wD (eB h) (eB h)) (eB h)
theorem B3n {x:Nat} (h:x < 4294967296):S0 x < 4294967296:=wD (wD (eB h) (eB h)) (eB h)
theorem B39 {e f g:Nat} (he:e < 4294967296):ch e f g < 4294967296:=wD (iY he) (iY (wD (by decide) he))
theorem B31 {a b c:Nat} (ha:a < 4294967296) (hb:b < 4294967296):mj a b c < 4294967296:=wD (wD (iY ha) (iY ha)) (iY hb)
def bt (t:List UInt8) (i:Nat):Nat:=(t.getD i 0).toNat
theorem oF (t:List UInt8) (i:Nat):bt t i < 256:=UInt8.toNat_lt _
def wBE (t:List UInt8) (i:Nat):Nat:=bt t i * 2 ^ 24 ||| bt t (i+1) * 2 ^ 16 ||| bt t (i+2) * 2 ^ 8 ||| bt t (i+3)
def wLE (t:List UInt8) (i:Nat):Nat:=bt t i ||| bt t (i+1) * 2 ^ 8 ||| bt t (i+2) * 2 ^ 16 ||| bt t (i+3) * 2 ^ 24
theorem B2u (t:List UInt8) (i:Nat):wBE t i < 4294967296:=by
 have h0:=oF t i;have h1:=oF t (i+1);have h2:=oF t (i+2);have h3:=oF t (i+3)
 exact eF (eF (eF (by omega) (by omega)) (by omega)) (by omega)
theorem Bz4 (t:List UInt8) (i:Nat):wLE t i < 4294967296:=by
 have h0:=oF t i;have h1:=oF t (i+1);have h2:=oF t (i+2);have h3:=oF t (i+3)
 exact eF (eF (eF (by omega) (by omega)) (by omega)) (by omega)
def stA (t:List UInt8) (i:Nat) (w:List Nat):List Nat:=w.set i (wBE t (4 * i))
def stB (i:Nat) (w:List Nat):List Nat:=w.set (i+16) ((w.getD i 0+g0 (w.getD (i+1) 0)+w.getD (i+9) 0+g1 (w.getD (i+14) 0)) % 4294967296)
def stC (k w:List Nat) (i:Nat) (v:List Nat):List Nat:=
 let x:=v.getD 7 0+S1 (v.getD 4 0)+ch (v.getD 4 0) (v.getD 5 0) (v.getD 6 0)+k.getD i 0+w.getD i 0
 [(x+S0 (v.getD 0 0)+mj (v.getD 0 0) (v.getD 1 0) (v.getD 2 0)) % 4294967296,v.getD 0 0,v.getD 1 0,v.getD 2 0,(v.getD 3 0+x) % 4294967296,v.getD 4 0,v.getD 5 0,v.getD 6 0]
def stD (v:List Nat) (i:Nat) (h:List Nat):List Nat:=h.set i ((h.getD i 0+v.getD i 0) % 4294967296)
def B4E (t:List UInt8):List Nat:=vM stB 48 0 (vM (stA t) 16 0 (A9 64 0))
def BR4 (k h:List Nat) (t:List UInt8):List Nat:=vM (stD (vM (stC k (B4E t)) 64 0 h)) 8 0 h
def BP6 (k:List Nat):Nat→List Nat→List UInt8→List Nat × List UInt8
 | 0,h,t=>(h,t)
 | n+1,h,t=>if 64≤t.length then BP6 k n (BR4 k h t) (t.drop 64) else (h,t)
def qr (a b c d:Nat):Nat × Nat × Nat × Nat:=
 let a1:=(a+b) % 4294967296
 let d1:=rl 16 (d ^^^ a1)
 let c1:=(c+d1) % 4294967296
 let b1:=rl 12 (b ^^^ c1)
 let a2:=(a1+b1) % 4294967296
 let d2:=rl 8 (d1 ^^^ a2)
 let c2:=(c1+d2) % 4294967296
 let b2:=rl 7 (b1 ^^^ c2)
 (a2,b2,c2,d2)
theorem B3y {a b c d:Nat} (hb:b < 4294967296) (hd:d < 4294967296):(qr a b c d).1 < 4294967296∧(qr a b c d).2.1 < 4294967296∧(qr a b c d).2.2.1 < 4294967296∧(qr a b c d).2.2.2 < 4294967296:=by
 refine⟨vY _,A2T (wD (A2T (wD hb (vY _))) (vY _)),vY _,A2T (wD (A2T (wD hd (vY _))) (vY _))⟩
def qs (a b c d:Nat) (y:List Nat):List Nat:=
 let q:=qr (y.getD a 0) (y.getD b 0) (y.getD c 0) (y.getD d 0)
 (((y.set a q.1).set b q.2.1).set c q.2.2.1).set d q.2.2.2
def dr (y:List Nat):List Nat:=
 qs 3 4 9 14 (qs 2 7 8 13 (qs 1 6 11 12 (qs 0 5 10 15 (qs 3 7 11 15 (qs 2 6 10 14 (qs 1 5 9 13 (qs 0 4 8 12 y)))))))
theorem B36 {a b c d:Nat} {y:List Nat} (h:Bd 4294967296 y):Bd 4294967296 (qs a b c d y):=by
 have:=B3y (a:=y.getD a 0) (c:=y.getD c 0) (h.get (by decide) b) (h.get (by decide) d)
 exact (((h.set this.1).set this.2.1).set this.2.2.1).set this.2.2.2
theorem B1w {a b c d:Nat} {y:List Nat}:(qs a b c d y).length=y.length:=by simp[qs]
def BM9:List UInt8→List UInt8→List UInt8
 | a :: xs,b :: ys=>(a ^^^ b) :: BM9 xs ys
 | _,_=>[]
end Go.Rf

end
section
namespace Go.Rf.S
def ub (l:List Nat):List UInt8:=List.map UInt8.ofNat l
def stL (v i:Nat) (o:List Nat):List Nat:=o++[v / 2 ^ (8 * i) % 256]
def lit (v n:Nat):List Nat:=vM (stL v) n 0 []
def exC:List UInt8:=[101,120,112,97,110,100,32,51,50,45,98,121,116,101,32,107]
def chI (key nonce:List UInt8) (count:Nat):List Nat:=
 [wLE exC 0,wLE exC 4,wLE exC 8,wLE exC 12,wLE key 0,wLE key 4,wLE key 8,wLE key 12,wLE key 16,wLE key 20,wLE key 24,wLE key 28,count,wLE nonce 0,wLE nonce 4,wLE nonce 8]
def rk (k:Nat) (y:List Nat):List Nat:=vM (fun i y=>qs i (4+(i+k) % 4) (8+(i+2 * k) % 4) (12+(i+3 * k) % 4) y) 4 0 y
def r10 (y:List Nat):List Nat:=vM (fun _ y=>rk 1 (rk 0 y)) 10 0 y
def stF (x y:List Nat) (i:Nat) (o:List Nat):List Nat:=o++lit ((y.getD i 0+x.getD i 0) % 4294967296) 4
def chO (x:List Nat):List Nat:=vM (stF x (r10 x)) 16 0 []
def chB (key nonce:List UInt8) (count:Nat):List UInt8:=ub (chO (chI key nonce count))
def chX (key nonce:List UInt8):Nat→Nat→List UInt8→List UInt8
 | 0,_,_=>[]
 | n+1,count,t=>if t=[] then [] else BM9 (t.take 64) (chB key nonce count)++chX key nonce n (count+1) (t.drop 64)
end Go.Rf.S

end
section
namespace Go.Rf
set_option linter.unusedSectionVars false
variable [T:Laid]
theorem dT {p:Prop} [Decidable p] (h:p):decide p=true:=Ar h
theorem dF {p:Prop} [Decidable p] (h:¬ p):decide p=false:=Ax h
theorem st : (∀ i : Nat, zA (i : Int) = true) ∧ (∀ i : Int, 0 ≤ i → zA i = true) ∧ (∀ i : Nat, BD (i : Int) = i) ∧ (∀ i n : Nat, i < n → BP i n = true) ∧ (∀ i n : Nat, i ≤ n → BQ i n = true)
    ∧ (∀ n : Nat, n ≤ 1099511627776 → yI n = true) ∧ (∀ n : Int, -9223372036854775808 ≤ n → n ≤ 9223372036854775807 → Aw .i64 n = n)
    ∧ (∀ (α : Type) (a b : α), cond true a b = a) ∧ (∀ (α : Type) (a b : α), cond false a b = b) ∧ (∀ (α β : Type) (a : α) (f : α → Option β), (some a).bind f = f a)
    ∧ (∀ (α : Type) (a : α), [a].length = 1) ∧ (∀ (α : Type) (a b : List α), (a ++ b).length = a.length + b.length) ∧ (∀ a b : Int, a = b → eqI a b = true) ∧ (∀ a b : Int, a ≠ b → eqI a b = false) :=
  ⟨nn, fun i h => by simp [zA]; omega, tn, fun i n h => zO h, fun i n h => by simpa [Nat.ble_eq] using h, fun n h => wF h, fun n h1 h2 => zI h1 h2,
   fun _ _ _ => rfl, fun _ _ _ => rfl, fun _ _ _ _ => rfl, fun _ _ => rfl, fun _ _ _ => Aa, fun a b h => by rw [yU]; exact Ar h, fun a b h => by rw [yU]; exact Ax h⟩
theorem BQ0 {α β γ:Type} (F:List β→Int→Option γ) (v:List α) (d:α) (f:Nat→α→β) (K:List β→Option γ) (o0:List β)
  (stop:∀ o,o.length=o0.length+v.length→F o (v.length:Nat)=K o)
  (step:∀ o (i:Nat),i < v.length→o.length=o0.length+i→F o (i:Nat)=F (o++[f i (v.getD i d)]) ((i+1:Nat):Int)):F o0 0=K (o0++v.mapIdx f):=by
 have h:∀ (n i:Nat),v.length - i=n→i≤v.length→F (o0++(v.take i).mapIdx f) (i:Nat)=K (o0++v.mapIdx f):=by
  intro n
  induction n with
  | zero=>
   intro i hn hi
   have:i=v.length:=by omega
   subst this
   rw[AN,stop _ (by rw[Aa,B6])]
  | succ n ih=>
   intro i hn hi
   rw[step _ i (by omega) (by rw[Aa,B6,As];omega),← ih (i+1) (by omega) (by omega)]
   have hg:v[i]?=some (v.getD i d):=by rw[Ai,Ah (by omega)];rfl
   rw[Bg,hg,Bc,List.mapIdx_append,As,Bq (by omega),B9]
   simp
 have:=h v.length 0 rfl (A6 _)
 simpa using this
theorem B2C {α:Type} {v r:List α} {i:Nat} {a b d:α} (h:v.drop i=a :: b :: r):i+1 < v.length∧v.getD i d=a∧v.getD (i+1) d=b∧v.drop (i+2)=r:=by
 have hl:(v.drop i).length=r.length+2:=by rw[h];rfl
 rw[Ay] at hl
 have h0:=yH (d:=d) (show i < v.length by omega)
 have h1:=yH (d:=d) (show i+1 < v.length by omega)
 rw[h,h1] at h0
 injection h0 with e1 e2
 injection e2 with e2 e3
 exact⟨by omega,e1.symm,e2.symm,e3.symm⟩
theorem A6G {i:Nat} (h:i < 4611686018427387904):Aw .i64 ((i:Int)+2)=((i+2:Nat):Int):=by
 rw[zI (by omega) (by omega)];omega
end Go.Rf

end
section
namespace Go.Rf
abbrev TB:Type:=Int × (Int × (Int × Unit))
abbrev TR:Type:=Int × (List Int × Unit)
abbrev TO:Type:=List Int × (List TB × (List (List TB) × Unit))
abbrev TE:Type:=List Int × (TO × Unit)
def inR (n a b:Int):Bool:=decide (a≤n)&&decide (n≤b)
abbrev LO:Type:=Option (List Int)
abbrev SO1:Type:=List Int × Bool
def pN (b:Int):LO→Int × LO
 | some (x :: l)=>if inR x 0 b then (x,some l) else (0,none)
 | _=>(0,none)
def pS (b:Int):Nat→LO→List Int × LO
 | 0,o=>([],o)
 | n+1,o=>((pN b o).1 :: (pS b n (pN b o).2).1,(pS b n (pN b o).2).2)
def pB1 (o:LO):TB × LO:=(((pN 11 o).1,((pN 7 (pN 11 o).2).1,((pN 999999 (pN 7 (pN 11 o).2).2).1,()))),(pN 999999 (pN 7 (pN 11 o).2).2).2)
def pB:Nat→LO→List TB × LO
 | 0,o=>([],o)
 | n+1,o=>((pB1 o).1 :: (pB n (pB1 o).2).1,(pB n (pB1 o).2).2)
def pR1 (o:LO):TR × LO:=(((pN 19 o).1,((pS 999999 (pN 32 (pN 19 o).2).1.toNat (pN 32 (pN 19 o).2).2).1,())),(pS 999999 (pN 32 (pN 19 o).2).1.toNat (pN 32 (pN 19 o).2).2).2)
def pR:Nat→LO→List TR × LO
 | 0,o=>([],o)
 | n+1,o=>((pR1 o).1 :: (pR n (pR1 o).2).1,(pR n (pR1 o).2).2)
def pE:LO→Bool
 | none=>false
 | some l=>l.all fun n=>decide (n=0)
def sN (s:SO1):Int × SO1:=match s.1 with
 | []=>(-1,s)
 | x :: l=>(x,(l,s.2))
def sC (b:Int) (s:SO1):Int × SO1:=if inR (sN s).1 0 b then sN s else (0,([],true))
def sS:Nat→SO1→List Int × SO1
 | 0,s=>([],s)
 | n+1,s=>((sN s).1 :: (sS n (sN s).2).1,(sS n (sN s).2).2)
def sB1 (s:SO1):TB × SO1:=(((sN s).1,((sN (sN s).2).1,((sN (sN (sN s).2).2).1,()))),(sN (sN (sN s).2).2).2)
def sB:Nat→SO1→List TB × SO1
 | 0,s=>([],s)
 | n+1,s=>((sB1 s).1 :: (sB n (sB1 s).2).1,(sB n (sB1 s).2).2)
def sR1 (s:SO1):TR × SO1:=(((sN s).1,((sS (sC 32 (sN s).2).1.toNat (sC 32 (sN s).2).2).1,())),(sS (sC 32 (sN s).2).1.toNat (sC 32 (sN s).2).2).2)
def sR:Nat→SO1→List TR × SO1
 | 0,s=>([],s)
 | n+1,s=>((sR1 s).1 :: (sR n (sR1 s).2).1,(sR n (sR1 s).2).2)
def sE (s:SO1):Bool:=(s.1.all fun n=>decide (n=0))&&!s.2
theorem Ae3 (b:Int):∀ n,(pS b n none).2=none
 | 0=>rfl
 | n+1=>Ae3 b n
theorem As8:∀ n,(pB n none).2=none
 | 0=>rfl
 | n+1=>As8 n
theorem Bk5:(pR1 none).2=none:=Ae3 _ _
theorem A4V:∀ n,(pR n none).2=none
 | 0=>rfl
 | n+1=>by show (pR n (pR1 none).2).2=none;rw[Bk5];exact A4V n
theorem As1 {s:SO1} (h:s.2=true):(sN s).2.2=true:=by
 obtain⟨l,o⟩:=s
 cases l<;>exact h
theorem A3Z {b:Int} {s:SO1} (h:s.2=true):(sC b s).2.2=true:=by
 unfold sC;split
 ·exact As1 h
 ·rfl
theorem A0m:∀ (n:Nat) {s:SO1},s.2=true→(sS n s).2.2=true
 | 0,_,h=>h
 | n+1,_,h=>A0m n (As1 h)
theorem Bt7 {s:SO1} (h:s.2=true):(sB1 s).2.2=true:=As1 (As1 (As1 h))
theorem A0j:∀ (n:Nat) {s:SO1},s.2=true→(sB n s).2.2=true
 | 0,_,h=>h
 | n+1,_,h=>A0j n (Bt7 h)
theorem Bp7 {s:SO1} (h:s.2=true):(sR1 s).2.2=true:=A0m _ (A3Z (As1 h))
theorem A3d:∀ (n:Nat) {s:SO1},s.2=true→(sR n s).2.2=true
 | 0,_,h=>h
 | n+1,_,h=>A3d n (Bp7 h)
def Sy (o:LO) (s:SO1):Prop:=o=some s.1∧s.2=false
theorem A2x {o:LO} {s:SO1} (h:Sy o s) (b:Int):(Sy (pN b o).2 (sN s).2∧(pN b o).1=(sN s).1∧inR (sN s).1 0 b=true)∨((pN b o).2=none∧inR (sN s).1 0 b=false):=by
 obtain⟨l,v⟩:=s
 obtain⟨rfl,hv⟩:=h
 have hv:v=false:=hv
 subst hv
 cases l with
 | nil=>exact .inr ⟨rfl,rfl⟩
 | cons x l=>
  cases hx:inR x 0 b with
  | true=>
   refine .inl ?_
   have e:pN b (some (x :: l))=(x,some l):=by show (if inR x 0 b=true then _ else _)=_;rw[Aq hx]
   rw[show (x :: l,false).1=x :: l from rfl,e]
   exact⟨⟨rfl,rfl⟩,rfl,hx⟩
  | false=>
   refine .inr ⟨?_,hx⟩
   show (if inR x 0 b=true then _ else _:Int × LO).2=none
   rw[hx];rfl
theorem BA7 {o:LO} {s:SO1} (h:Sy o s) (b:Int):(Sy (pN b o).2 (sC b s).2∧(pN b o).1=(sC b s).1∧inR (sC b s).1 0 b=true)∨((pN b o).2=none∧(sC b s).2.2=true):=by
 rcases A2x h b with ⟨h1,h2,h3⟩| ⟨h1,h2⟩
 ·refine .inl ?_
  have e:sC b s=sN s:=by unfold sC;rw[Aq h3]
  rw[e];exact⟨h1,h2,h3⟩
 ·refine .inr ⟨h1,?_⟩
  unfold sC;rw[h2];rfl
theorem A4L (b:Int):∀ (n:Nat) {o:LO} {s:SO1},Sy o s→(Sy (pS b n o).2 (sS n s).2∧(pS b n o).1=(sS n s).1∧((sS n s).1.all fun x=>inR x 0 b)=true)∨((pS b n o).2=none∧((sS n s).1.all fun x=>inR x 0 b)=false)
 | 0,_,_,h=>.inl ⟨h,rfl,rfl⟩
 | n+1,o,s,h=>by
  rcases A2x h b with ⟨h1,h2,h3⟩| ⟨h1,h2⟩
  ·rcases A4L b n h1 with ⟨k1,k2,k3⟩| ⟨k1,k2⟩
   ·refine .inl ⟨k1,?_,?_⟩
    ·show _ :: _=_ :: _;rw[h2,k2]
    ·show ((_ :: _:List Int).all _)=true;rw[At,h3,k3];rfl
   ·refine .inr ⟨k1,?_⟩
    show ((_ :: _:List Int).all _)=false;rw[At,k2,Av]
  ·refine .inr ⟨?_,?_⟩
   ·show (pS b n (pN b o).2).2=none;rw[h1];exact Ae3 b n
   ·show ((_ :: _:List Int).all _)=false;rw[At,h2,AA]
def Az1 (x:TB):Bool:=inR x.1 0 11&&(inR x.2.1 0 7&&inR x.2.2.1 0 999999)
theorem B0H {o:LO} {s:SO1} (h:Sy o s):(Sy (pB1 o).2 (sB1 s).2∧(pB1 o).1=(sB1 s).1∧Az1 (sB1 s).1=true)∨((pB1 o).2=none∧Az1 (sB1 s).1=false):=by
 unfold Az1
 rcases A2x h 11 with ⟨h1,h2,h3⟩| ⟨h1,h2⟩
 ·rcases A2x h1 7 with ⟨k1,k2,k3⟩| ⟨k1,k2⟩
  ·rcases A2x k1 999999 with ⟨m1,m2,m3⟩| ⟨m1,m2⟩
   ·refine .inl ⟨m1,?_,?_⟩
    ·show (_,(_,(_,())))=(_,(_,(_,())));rw[h2,k2,m2]
    ·show (inR (sN s).1 0 11&&(inR (sN (sN s).2).1 0 7&&inR (sN (sN (sN s).2).2).1 0 999999))=true
     rw[h3,k3,m3];rfl
   ·refine .inr ⟨m1,?_⟩
    show (inR (sN s).1 0 11&&(inR (sN (sN s).2).1 0 7&&inR (sN (sN (sN s).2).2).1 0 999999))=false
    rw[m2,Av,Av]
  ·refine .inr ⟨?_,?_⟩
   ·show (pN 999999 (pN 7 (pN 11 o).2).2).2=none;rw[k1];rfl
   ·show (inR (sN s).1 0 11&&(inR (sN (sN s).2).1 0 7&&inR (sN (sN (sN s).2).2).1 0 999999))=false
    rw[k2,AA,Av]
 ·refine .inr ⟨?_,?_⟩
  ·show (pN 999999 (pN 7 (pN 11 o).2).2).2=none;rw[h1];rfl
  ·show (inR (sN s).1 0 11&&(inR (sN (sN s).2).1 0 7&&inR (sN (sN (sN s).2).2).1 0 999999))=false
   rw[h2,AA]
theorem Bh5:∀ (n:Nat) {o:LO} {s:SO1},Sy o s→(Sy (pB n o).2 (sB n s).2∧(pB n o).1=(sB n s).1∧(sB n s).1.all Az1=true)∨((pB n o).2=none∧(sB n s).1.all Az1=false)
 | 0,_,_,h=>.inl ⟨h,rfl,rfl⟩
 | n+1,o,s,h=>by
  rcases B0H h with ⟨h1,h2,h3⟩| ⟨h1,h2⟩
  ·rcases Bh5 n h1 with ⟨k1,k2,k3⟩| ⟨k1,k2⟩
   ·refine .inl ⟨k1,?_,?_⟩
    ·show _ :: _=_ :: _;rw[h2,k2]
    ·show ((_ :: _:List TB).all _)=true;rw[At,h3,k3];rfl
   ·refine .inr ⟨k1,?_⟩
    show ((_ :: _:List TB).all _)=false;rw[At,k2,Av]
  ·refine .inr ⟨?_,?_⟩
   ·show (pB n (pB1 o).2).2=none;rw[h1];exact As8 n
   ·show ((_ :: _:List TB).all _)=false;rw[At,h2,AA]
def B0r (x:TR):Bool:=inR x.1 0 19&&x.2.1.all fun v=>inR v 0 999999
theorem B0D {o:LO} {s:SO1} (h:Sy o s):(Sy (pR1 o).2 (sR1 s).2∧(pR1 o).1=(sR1 s).1)∨((pR1 o).2=none∧((sR1 s).2.2=true∨B0r (sR1 s).1=false)):=by
 rcases A2x h 19 with ⟨h1,h2,h3⟩| ⟨h1,h2⟩
 ·rcases BA7 h1 32 with ⟨k1,k2,k3⟩| ⟨k1,k2⟩
  ·have hk:(pN 32 (pN 19 o).2).1.toNat=(sC 32 (sN s).2).1.toNat:=by rw[k2]
   rcases A4L 999999 (sC 32 (sN s).2).1.toNat k1 with ⟨m1,m2,m3⟩| ⟨m1,m2⟩
   ·refine .inl ⟨?_,?_⟩
    ·show Sy (pS 999999 (pN 32 (pN 19 o).2).1.toNat _).2 _;rw[hk];exact m1
    ·show ((pN 19 o).1,((pS 999999 (pN 32 (pN 19 o).2).1.toNat _).1,()))=(_,(_,()));rw[hk,h2,m2]
   ·refine .inr ⟨?_,.inr ?_⟩
    ·show (pS 999999 (pN 32 (pN 19 o).2).1.toNat _).2=none;rw[hk];exact m1
    ·unfold B0r
     show (_&&((sS (sC 32 (sN s).2).1.toNat (sC 32 (sN s).2).2).1.all _))=false
     rw[m2,Av]
  ·refine .inr ⟨?_,.inl (A0m _ k2)⟩
   show (pS 999999 _ (pN 32 (pN 19 o).2).2).2=none;rw[k1];exact Ae3 _ _
 ·refine .inr ⟨?_,.inr ?_⟩
  ·show (pS 999999 _ (pN 32 (pN 19 o).2).2).2=none;rw[h1];exact Ae3 _ _
  ·unfold B0r
   show (inR (sN s).1 0 19&&_)=false
   rw[h2,AA]
theorem By8:∀ (n:Nat) {o:LO} {s:SO1},Sy o s→(Sy (pR n o).2 (sR n s).2∧(pR n o).1=(sR n s).1)∨((pR n o).2=none∧((sR n s).2.2=true∨(sR n s).1.all B0r=false))
 | 0,_,_,h=>.inl ⟨h,rfl⟩
 | n+1,o,s,h=>by
  rcases B0D h with ⟨h1,h2⟩| ⟨h1,h2⟩
  ·rcases By8 n h1 with ⟨k1,k2⟩| ⟨k1,k2⟩
   ·refine .inl ⟨k1,?_⟩
    show _ :: _=_ :: _;rw[h2,k2]
   ·refine .inr ⟨k1,k2.imp id fun k2=>?_⟩
    show ((_ :: _:List TR).all _)=false;rw[At,k2,Av]
  ·refine .inr ⟨?_,h2.imp (fun h2=>A3d n h2) fun h2=>?_⟩
   ·show (pR n (pR1 o).2).2=none;rw[h1];exact A4V n
   ·show ((_ :: _:List TR).all _)=false;rw[At,h2,AA]
def nob:List (List TB):=A9 15 []
def pK (o:LO):List Int × LO:=pS 7 12 o
def pT (o:LO):List TB × LO:=pB (pN 12 (pK o).2).1.toNat (pN 12 (pK o).2).2
def pY (o:LO):List Int × LO:=pS 9999 11 (pT o).2
def pZ (o:LO):List TR × LO:=pR (pN 2 (pY o).2).1.toNat (pN 2 (pY o).2).2
def Bc9 (o:LO):TE:=((pY o).1,(((pK o).1,((pT o).1,(nob,()))),()))
def sK (s:SO1):List Int × SO1:=sS 12 s
def sT (s:SO1):List TB × SO1:=sB (sC 12 (sK s).2).1.toNat (sC 12 (sK s).2).2
def sY (s:SO1):List Int × SO1:=sS 11 (sT s).2
def sZ (s:SO1):List TR × SO1:=sR (sC 2 (sY s).2).1.toNat (sC 2 (sY s).2).2
def A19 (s:SO1):TE:=((sY s).1,(((sK s).1,((sT s).1,(nob,()))),()))
theorem BW5 {o:LO} (h:(pK o).2=none):(pT o).2=none:=by unfold pT;rw[h];exact As8 _
theorem A30 {o:LO} (h:(pT o).2=none):(pY o).2=none:=by unfold pY;rw[h];exact Ae3 _ _
theorem A1M {o:LO} (h:(pY o).2=none):(pZ o).2=none:=by unfold pZ;rw[h];exact A4V _
theorem B0C {s:SO1} (h:(sK s).2.2=true):(sT s).2.2=true:=A0j _ (A3Z h)
theorem Bb7 {s:SO1} (h:(sT s).2.2=true):(sY s).2.2=true:=A0m _ h
theorem Bd1 {s:SO1} (h:(sY s).2.2=true):(sZ s).2.2=true:=A3d _ (A3Z h)
theorem A4T {s:SO1} (h:s.2=true):sE s=false:=by unfold sE;rw[h];simp
structure EncLaw (enc:TE→Bool):Prop where
 pos:∀ e,enc e=true→(e.2.1.1.all fun x=>inR x 0 7)=true
 stash:∀ e,enc e=true→e.2.1.2.1.all Az1=true
 keys:∀ e,enc e=true→(e.1.all fun x=>inR x 0 9999)=true
theorem Bq5 {a b:Bool} (h:a=true→b=true) (hb:b=false):a=false:=by
 cases a with
 | false=>rfl
 | true=>rw[h rfl] at hb;cases hb
theorem BK5 {enc:TE→Bool} {res:List TR→Bool} (he:EncLaw enc) (hr:∀ l,res l=true→l.all B0r=true) {o:LO} {s:SO1} (h:Sy o s∨(o=none∧s.2=true)):
  (pE (pZ o).2&&(enc (Bc9 o)&&res (pZ o).1))=(sE (sZ s).2&&(enc (A19 s)&&res (sZ s).1))∧(sE (sZ s).2=true→enc (A19 s)=true→res (sZ s).1=true→Bc9 o=A19 s∧(pZ o).1=(sZ s).1):=by
 have B1j:(pZ o).2=none→(sZ s).2.2=true→(pE (pZ o).2&&(enc (Bc9 o)&&res (pZ o).1))=(sE (sZ s).2&&(enc (A19 s)&&res (sZ s).1))∧(sE (sZ s).2=true→enc (A19 s)=true→res (sZ s).1=true→Bc9 o=A19 s∧(pZ o).1=(sZ s).1):=fun h1 h2=>by
  rw[h1,A4T h2]
  exact⟨rfl,fun h=>nomatch h⟩
 have noenc:(pZ o).2=none→enc (A19 s)=false→(pE (pZ o).2&&(enc (Bc9 o)&&res (pZ o).1))=(sE (sZ s).2&&(enc (A19 s)&&res (sZ s).1))∧(sE (sZ s).2=true→enc (A19 s)=true→res (sZ s).1=true→Bc9 o=A19 s∧(pZ o).1=(sZ s).1):=fun h1 h2=>by
  rw[h1,h2,AA,Av]
  exact⟨rfl,fun _ h=>nomatch h⟩
 rcases h with h|⟨h1,h2⟩
 rotate_left
 ·subst h1
  exact B1j (A1M (A30 (BW5 (Ae3 _ _)))) (Bd1 (Bb7 (B0C (A0m _ h2))))
 rcases A4L 7 12 h with ⟨h1,h2,h3⟩| ⟨h1,h2⟩
 rotate_left
 ·exact noenc (A1M (A30 (BW5 h1))) (Bq5 (he.pos (A19 s)) h2)
 rcases BA7 h1 12 with ⟨c1,c2,c3⟩| ⟨c1,c2⟩
 rotate_left
 ·refine B1j (A1M (A30 ?_)) (Bd1 (Bb7 (A0j _ c2)))
  show (pB _ (pN 12 (pS 7 12 o).2).2).2=none
  rw[c1];exact As8 _
 have hk:(pN 12 (pK o).2).1.toNat=(sC 12 (sK s).2).1.toNat:=Aj BD c2
 have c1:Sy (pN 12 (pK o).2).2 (sC 12 (sK s).2).2:=c1
 rcases Bh5 (sC 12 (sK s).2).1.toNat c1 with ⟨b1,b2,b3⟩| ⟨b1,b2⟩
 rotate_left
 ·refine noenc (A1M (A30 ?_)) (Bq5 (he.stash (A19 s)) b2)
  unfold pT;rw[hk];exact b1
 have b1:Sy (pT o).2 (sT s).2:=by unfold pT;rw[hk];exact b1
 have b2:(pT o).1=(sT s).1:=by unfold pT;rw[hk];exact b2
 rcases A4L 9999 11 b1 with ⟨y1,y2,y3⟩| ⟨y1,y2⟩
 rotate_left
 ·exact noenc (A1M y1) (Bq5 (he.keys (A19 s)) y2)
 have y1:Sy (pY o).2 (sY s).2:=y1
 have y2:(pY o).1=(sY s).1:=y2
 have h2:(pK o).1=(sK s).1:=h2
 have ee:Bc9 o=A19 s:=by unfold Bc9 A19;rw[h2,b2,y2]
 rcases BA7 y1 2 with ⟨d1,d2,d3⟩| ⟨d1,d2⟩
 rotate_left
 ·refine B1j ?_ (A3d _ d2)
  unfold pZ;rw[d1];exact A4V _
 have hd:(pN 2 (pY o).2).1.toNat=(sC 2 (sY s).2).1.toNat:=Aj BD d2
 rcases By8 (sC 2 (sY s).2).1.toNat d1 with ⟨r1,r2⟩| ⟨r1,r2⟩
 ·have r1:Sy (pZ o).2 (sZ s).2:=by unfold pZ;rw[hd];exact r1
  have r2:(pZ o).1=(sZ s).1:=by unfold pZ;rw[hd];exact r2
  have re:pE (pZ o).2=sE (sZ s).2:=by
   rw[r1.1];unfold sE;rw[r1.2,BM,Bj];rfl
  rw[ee,r2,re]
  exact⟨rfl,fun _ _ _=>⟨rfl,rfl⟩⟩
 ·have r1:(pZ o).2=none:=by unfold pZ;rw[hd];exact r1
  rcases r2 with r2|r2
  ·exact B1j r1 r2
  ·have hz:res (sZ s).1=false:=Bq5 (hr _) r2
   rw[r1,hz,Av,Av]
   exact⟨rfl,fun _ _ h=>nomatch h⟩
def pV (o:LO):List TB × LO:=pB (pN 2 o).1.toNat (pN 2 o).2
def sV (s:SO1):List TB × SO1:=sB (sC 2 s).1.toNat (sC 2 s).2
def A5r (l:List TB):Bool:=l.all Az1&&decide (l.length≤2)
theorem A9k:∀ (n:Nat) (o:LO),(pB n o).1.length=n
 | 0,_=>rfl
 | n+1,o=>by show (_ :: _:List TB).length=_;rw[A0,A9k n]
theorem Bb1:∀ (n:Nat) (o:SO1),(sB n o).1.length=n
 | 0,_=>rfl
 | n+1,o=>by show (_ :: _:List TB).length=_;rw[A0,Bb1 n]
theorem A8d {o:LO} {s:SO1} (h:Sy o s∨(o=none∧s.2=true)):
  pE (pV o).2=(sE (sV s).2&&A5r (sV s).1)∧(sE (sV s).2=true→A5r (sV s).1=true→(pV o).1=(sV s).1):=by
 rcases h with h|⟨h1,h2⟩
 rotate_left
 ·subst h1
  have:(sV s).2.2=true:=A0j _ (A3Z h2)
  rw[A4T this]
  refine⟨?_,fun h=>nomatch h⟩
  have:(pV none).2=none:=As8 _
  rw[this];rfl
 rcases BA7 h 2 with ⟨c1,c2,c3⟩| ⟨c1,c2⟩
 rotate_left
 ·have hv:(sV s).2.2=true:=A0j _ c2
  rw[A4T hv]
  refine⟨?_,fun h=>nomatch h⟩
  have:(pV o).2=none:=by unfold pV;rw[c1];exact As8 _
  rw[this];rfl
 have hk:(pN 2 o).1.toNat=(sC 2 s).1.toNat:=Aj BD c2
 have hl:(sV s).1.length≤2:=by
  unfold sV;rw[Bb1]
  simp only[inR,Af,Au] at c3
  omega
 have eb:A5r (sV s).1=(sV s).1.all Az1:=by unfold A5r;rw[Ar hl,Bj]
 rw[eb]
 rcases Bh5 (sC 2 s).1.toNat c1 with ⟨b1,b2,b3⟩| ⟨b1,b2⟩
 ·have b1:Sy (pV o).2 (sV s).2:=by unfold pV;rw[hk];exact b1
  have b2:(pV o).1=(sV s).1:=by unfold pV;rw[hk];exact b2
  have b3:(sV s).1.all Az1=true:=b3
  rw[b3,Bj]
  refine⟨?_,fun _ _=>b2⟩
  rw[b1.1];unfold sE;rw[b1.2,BM,Bj];rfl
 ·have b1:(pV o).2=none:=by unfold pV;rw[hk];exact b1
  have b2:(sV s).1.all Az1=false:=b2
  rw[b1,b2,Av]
  exact⟨rfl,fun _ h=>nomatch h⟩
end Go.Rf

end
section
namespace Go.Rf
def A6k:Nat→Nat→List Int
 | 0,_=>[]
 | f+1,a=>if a=0 then [0] else A6k f ((a - 1) / 2)++[(a:Int)]
def AP1 (leaf:Int):List Int:=A6k 4 (7+leaf.toNat)
def onB (i:Nat) (leaf:Int):Bool:=(AP1 leaf).any fun x=>decide (x=(i:Int))
def AS3 (l:List Int) (n:Int):Bool:=l.any fun x=>decide (x=n)
def A4h (pos:List Int) (b:TB):Bool:=inR b.1 0 11&&(decide (pos.getD b.1.toNat 0=b.2.1)&&inR b.2.2.1 0 999999)
def ids (l:List TB):List Int:=l.map (·.1)
def Ay7 (pos:List Int):List Int→List TB→Bool
 | _,[]=>true
 | seen,b :: r=>(A4h pos b&&!AS3 seen b.1)&&Ay7 pos (seen++[b.1]) r
def Bi0 (pos:List Int) (i:Nat):List Int→List TB→Bool
 | _,[]=>true
 | seen,b :: r=>((A4h pos b&&!AS3 seen b.1)&&onB i b.2.1)&&Bi0 pos i (seen++[b.1]) r
def bkS (pos:List Int):Nat→List Int→List (List TB)→Bool
 | _,_,[]=>true
 | i,seen,k :: r=>decide (k.length≤2)&&(Bi0 pos i seen k&&bkS pos (i+1) (seen++ids k) r)
def B1Q:Nat→List (List TB)→Bool
 | _,[]=>true
 | i,k :: r=>decide (k.length≤2)&&((k.all fun b=>onB i b.2.1)&&B1Q (i+1) r)
def cM (n:Int):Bool:=inR n 0 7
def Az0 (o:TO):Bool:=decide (o.1.length=12)&&(o.1.all cM&&(decide (o.2.1.length≤12)&&(decide (o.2.2.1.length=15)&&(Ay7 o.1 [] o.2.1&&bkS o.1 0 (ids o.2.1) o.2.2.1))))
def A4M:List Int→List Int→Bool
 | _,[]=>true
 | seen,k :: r=>if k=0 then A4M seen r else (inR k 1 9999&&!AS3 seen k)&&A4M (seen++[k]) r
def AZ8 (e:TE):Bool:=A4M [] e.1&&(decide (e.1.length=11)&&Az0 e.2.1)
theorem Bg5 (pos seen:List Int) (b:TB) (r:List TB):Ay7 pos seen (b :: r)=((A4h pos b&&!AS3 seen b.1)&&Ay7 pos (seen++[b.1]) r):=rfl
theorem BQ6 (pos:List Int) (i:Nat) (seen:List Int) (b:TB) (r:List TB):Bi0 pos i seen (b :: r)=(((A4h pos b&&!AS3 seen b.1)&&onB i b.2.1)&&Bi0 pos i (seen++[b.1]) r):=rfl
theorem A9o (pos:List Int) (i:Nat) (seen:List Int) (k:List TB) (r:List (List TB)):bkS pos i seen (k :: r)=(decide (k.length≤2)&&(Bi0 pos i seen k&&bkS pos (i+1) (seen++ids k) r)):=rfl
def B1h:List Int→List Int→Bool
 | _,[]=>true
 | seen,k :: r=>(inR k 0 9999&&!(decide (0 < k)&&AS3 seen k))&&B1h (seen++[k]) r
theorem Bc1 (seen:List Int) (k:Int) (r:List Int):B1h seen (k :: r)=((inR k 0 9999&&!(decide (0 < k)&&AS3 seen k))&&B1h (seen++[k]) r):=rfl
theorem AW2 (a b:List Int) (n:Int):AS3 (a++b) n=(AS3 a n || AS3 b n):=List.any_append
theorem A8X:∀ (l sS sP:List Int),(∀ k,0 < k→AS3 sS k=AS3 sP k)→B1h sS l=A4M sP l
 | [],_,_,_=>rfl
 | k :: r,sS,sP,h=>by
  have e0:AS3 [k]=fun n=>(decide (k=n)|| false):=rfl
  unfold B1h A4M
  by_cases hk:k=0
  ·subst hk
   rw[Aq rfl,A8X r (sS++[0]) sP (fun k hk=>by rw[AW2,h k hk,e0];simp only[AR];rw[Ax (by omega),AR])]
   rfl
  ·rw[A5 hk]
   by_cases h0:0 < k
   ·rw[A8X r (sS++[k]) (sP++[k]) (fun n hn=>by rw[AW2,AW2,h n hn]),h k h0,Ar h0,B2]
    congr 2
    unfold inR
    rw[Ar (show 0≤k by omega),Ar (show 1≤k by omega)]
   ·have e1:inR k 0 9999=false:=by unfold inR;rw[Ax (by omega)];rfl
    have e2:inR k 1 9999=false:=by unfold inR;rw[Ax (by omega)];rfl
    rw[e1,e2];rfl
theorem A4J:∀ (l seen:List Int),A4M seen l=true→(l.all fun x=>inR x 0 9999)=true
 | [],_,_=>rfl
 | k :: r,seen,h=>by
  unfold A4M at h
  rw[At]
  by_cases hk:k=0
  ·subst hk
   rw[Aq rfl] at h
   rw[A4J r seen h];rfl
  ·rw[A5 hk] at h
   simp only[Af] at h
   rw[A4J r _ h.2]
   have:=h.1.1
   unfold inR at this ⊢
   simp only[Af,Au] at this
   rw[Ar (show 0≤k by omega),Ar this.2];rfl
theorem A0Q (pos:List Int):∀ (a b:List TB) (seen:List Int),Ay7 pos seen (a++b)=(Ay7 pos seen a&&Ay7 pos (seen++ids a) b)
 | [],b,seen=>by show _=(true&&_);rw[show ids []=[] from rfl,List.append_nil,B2];rfl
 | x :: a,b,seen=>by
  show (_&&Ay7 pos (seen++[x.1]) (a++b))=((_&&Ay7 pos (seen++[x.1]) a)&&_)
  rw[A0Q pos a b,show ids (x :: a)=[x.1]++ids a from rfl,← B9,← BN]
theorem Bc6 (pos:List Int) (i:Nat):∀ (l:List TB) (seen:List Int),Bi0 pos i seen l=(Ay7 pos seen l&&l.all fun b=>onB i b.2.1)
 | [],_=>rfl
 | x :: l,seen=>by
  show ((_&&onB i x.2.1)&&Bi0 pos i (seen++[x.1]) l)=((_&&Ay7 pos (seen++[x.1]) l)&&_)
  rw[Bc6 pos i l,At]
  cases (A4h pos x&&!AS3 seen x.1)<;>cases onB i x.2.1<;>cases Ay7 pos (seen++[x.1]) l<;>rfl
theorem Bg3 (pos:List Int):∀ (l:List (List TB)) (i:Nat) (seen:List Int),bkS pos i seen l=(B1Q i l&&Ay7 pos seen l.flatten)
 | [],_,_=>rfl
 | k :: r,i,seen=>by
  show (_&&(Bi0 pos i seen k&&bkS pos (i+1) (seen++ids k) r))=((_&&(_&&B1Q (i+1) r))&&Ay7 pos seen (k++r.flatten))
  rw[Bc6,Bg3 pos r,A0Q]
  cases decide (k.length≤2)<;>cases (k.all fun b=>onB i b.2.1)<;>cases B1Q (i+1) r<;>cases Ay7 pos seen k<;>rfl
def Bi1 (pos:List Int):List Bool→List TB→Bool
 | _,[]=>true
 | arr,b :: r=>(Az1 b&&(decide (b.2.1=pos.getD b.1.toNat 0)&&!arr.getD b.1.toNat false))&&Bi1 pos (arr.set b.1.toNat true) r
def B0j:Nat→List (List TB)→Bool
 | _,[]=>true
 | i,k :: r=>(decide (k.length≤2)&&k.all fun b=>cM b.2.1&&onB i b.2.1)&&B0j (i+1) r
def B0n (o:TO):Bool:=decide (o.1.length=12)&&(o.1.all cM&&(decide (o.2.2.1.length=15)&&(B0j 0 o.2.2.1&&Bi1 o.1 (A9 12 false) (o.2.1++o.2.2.1.flatten))))
def Arr (arr:List Bool) (seen:List Int):Prop:=arr.length=12∧∀ j:Nat,j < 12→arr.getD j false=AS3 seen (j:Int)
theorem Arr.step {arr:List Bool} {seen:List Int} (h:Arr arr seen) {n:Int} (hn:inR n 0 11=true):Arr (arr.set n.toNat true) (seen++[n]):=by
 unfold inR at hn
 simp only[Af,Au] at hn
 refine⟨by rw[BK];exact h.1,fun j hj=>?_⟩
 rw[AW2,← h.2 j hj,show AS3 [n] (j:Int)=(decide (n=(j:Int))|| false) from rfl,AR,Ai,Ai,BA]
 by_cases he:n.toNat=j
 ·rw[Aq he,Aq (by rw[h.1];omega),Ar (show n=(j:Int) by omega),Bool.or_true];rfl
 ·rw[A5 he,Ax (show ¬ n=(j:Int) by omega),AR]
theorem Bu1 {pos:List Int} (hl:pos.length=12) (hp:pos.all cM=true) {n:Int} (hn:inR n 0 11=true):cM (pos.getD n.toNat 0)=true:=by
 unfold inR at hn
 simp only[Af,Au] at hn
 have hlt:n.toNat < pos.length:=by omega
 have:pos.getD n.toNat 0=pos[n.toNat]:=by rw[Ai,Ah hlt];rfl
 rw[this]
 exact BE.1 hp _ (BF hlt)
theorem A8M {pos:List Int} (hl:pos.length=12) (hp:pos.all cM=true):∀ (l:List TB) (arr:List Bool) (seen:List Int),Arr arr seen→Bi1 pos arr l=Ay7 pos seen l
 | [],_,_,_=>rfl
 | b :: r,arr,seen,h=>by
  show (_&&Bi1 pos (arr.set b.1.toNat true) r)=(_&&Ay7 pos (seen++[b.1]) r)
  unfold Az1 A4h
  cases h1:inR b.1 0 11 with
  | false=>rfl
  | true=>
   rw[A8M hl hp r _ _ (h.step h1)]
   have hp1:=Bu1 hl hp h1
   have h1':=h1
   unfold inR at h1'
   simp only[Af,Au] at h1'
   have ha:=h.2 b.1.toNat (by omega)
   rw[B1 h1'.1] at ha
   rw[ha]
   by_cases he:b.2.1=pos.getD b.1.toNat 0
   ·have h2:inR b.2.1 0 7=true:=by rw[he];exact hp1
    rw[Ar he,Ar he.symm,h2]
    cases inR b.2.2.1 0 999999<;>cases AS3 seen b.1<;>rfl
   ·rw[Ax he,Ax (fun h=>he h.symm)]
    cases inR b.2.1 0 7<;>cases inR b.2.2.1 0 999999<;>cases AS3 seen b.1<;>rfl
def Bh9:List Bool→Nat
 | []=>0
 | true :: r=>Bh9 r
 | false :: r=>Bh9 r+1
theorem BA9:∀ (arr:List Bool) (j:Nat),j < arr.length→arr.getD j false=false→Bh9 (arr.set j true)+1=Bh9 arr
 | [],j,h,_=>absurd h (AT _)
 | x :: r,0,_,h=>by
  have h:x=false:=h
  subst h;rfl
 | x :: r,j+1,hj,h=>by
  have:=BA9 r j (by simpa using hj) h
  show Bh9 (x :: r.set j true)+1=_
  cases x
  ·show Bh9 (r.set j true)+1+1=Bh9 r+1;omega
  ·show Bh9 (r.set j true)+1=Bh9 r;omega
theorem A9w {pos:List Int}:∀ (l:List TB) (arr:List Bool),arr.length=12→Bi1 pos arr l=true→l.length≤Bh9 arr
 | [],_,_,_=>A6 _
 | b :: r,arr,ha,h=>by
  have h:((Az1 b&&(decide (b.2.1=pos.getD b.1.toNat 0)&&!arr.getD b.1.toNat false))&&Bi1 pos (arr.set b.1.toNat true) r)=true:=h
  simp only[Af,Bool.not_eq_true'] at h
  have h1:=h.1.1
  unfold Az1 at h1
  simp only[Af] at h1
  have h1:=h1.1
  unfold inR at h1
  simp only[Af,Au] at h1
  have:=BA9 arr b.1.toNat (by omega) h.1.2.2
  have:=A9w r _ (by rw[BK];exact ha) h.2
  rw[A0];omega
theorem A0g {pos:List Int}:∀ (l:List TB) (seen:List Int),Ay7 pos seen l=true→l.all (A4h pos)=true
 | [],_,_=>rfl
 | b :: r,seen,h=>by
  have h:((A4h pos b&&!AS3 seen b.1)&&Ay7 pos (seen++[b.1]) r)=true:=h
  simp only[Af] at h
  rw[At,h.1.1,A0g r _ h.2];rfl
theorem A83 {pos:List Int} (hl:pos.length=12) (hp:pos.all cM=true) {b:TB} (h:A4h pos b=true):Az1 b=true:=by
 unfold A4h at h
 simp only[Af,Au] at h
 unfold Az1
 rw[h.1,h.2.2,← h.2.1,show inR (pos.getD b.1.toNat 0) 0 7=true from Bu1 hl hp h.1];rfl
theorem BZ7 {pos:List Int} (hl:pos.length=12) (hp:pos.all cM=true):∀ (l:List (List TB)) (i:Nat),l.flatten.all (A4h pos)=true→B0j i l=B1Q i l
 | [],_,_=>rfl
 | k :: r,i,h=>by
  rw[List.flatten_cons,List.all_append] at h
  simp only[Af] at h
  have e:∀ (k:List TB),k.all (A4h pos)=true→(k.all fun b=>cM b.2.1&&onB i b.2.1)=k.all fun b=>onB i b.2.1:=fun k hk=>by
   induction k with
   | nil=>rfl
   | cons b k ih=>
    rw[At] at hk
    simp only[Af] at hk
    have:=A83 hl hp hk.1
    unfold Az1 at this
    simp only[Af] at this
    rw[At,At,ih hk.2,show cM b.2.1=true from this.2.1];rfl
  show ((_&&_)&&B0j (i+1) r)=(_&&(_&&B1Q (i+1) r))
  rw[BZ7 hl hp r (i+1) h.2,e k h.1,BN]
theorem B4H:Arr (A9 12 false) []:=by
 refine⟨List.length_replicate,fun j hj=>?_⟩
 rw[Ai,List.getElem?_replicate,Aq hj];rfl
theorem Bq2 (o:TO):B0n o=Az0 o:=by
 unfold B0n Az0
 by_cases h1:o.1.length=12
 ·cases h2:o.1.all cM with
  | false=>simp
  | true=>
   rw[A8M h1 h2 _ _ _ B4H,Bg3]
   have ea:Ay7 o.1 (ids o.2.1) o.2.2.1.flatten=Ay7 o.1 ([]++ids o.2.1) o.2.2.1.flatten:=rfl
   rw[ea]
   have es:=A0Q o.1 o.2.1 o.2.2.1.flatten []
   cases h3:Ay7 o.1 [] (o.2.1++o.2.2.1.flatten) with
   | true=>
    rw[h3] at es
    have es:=es.symm
    simp only[Af] at es
    have hall:=A0g _ _ es.2
    have hlen:o.2.1.length≤12:=by
     have:=A9w (pos:=o.1) o.2.1 (A9 12 false) rfl (by rw[A8M h1 h2 _ _ _ B4H];exact es.1)
     exact this
    rw[BZ7 h1 h2 _ _ hall,es.1,es.2,Ar hlen]
    cases decide (o.2.2.1.length=15)<;>cases B1Q 0 o.2.2.1<;>rfl
   | false=>
    rw[h3] at es
    cases h4:Ay7 o.1 [] o.2.1 with
    | false=>simp
    | true=>
     rw[h4,B2] at es
     rw[← es];simp
 ·rw[Ax h1];rfl
theorem Bn6:EncLaw AZ8:=by
 have hh:∀ e,AZ8 e=true→A4M [] e.1=true∧e.1.length=11∧e.2.1.1.length=12∧e.2.1.1.all cM=true∧Ay7 e.2.1.1 [] e.2.1.2.1=true:=fun e h=>by
  unfold AZ8 Az0 at h
  simp only[Af,Au] at h
  exact⟨h.1,h.2.1,h.2.2.1,h.2.2.2.1,h.2.2.2.2.2.2.1⟩
 refine⟨fun e h=>(hh e h).2.2.2.1,fun e h=>?_,fun e h=>A4J _ _ (hh e h).1⟩
 obtain⟨h1,h2,h3,h4,h5⟩:=hh e h
 have:=A0g _ _ h5
 rw[BE] at this ⊢
 exact fun b hb=>A83 h3 h4 (this b hb)
end Go.Rf

end
section
namespace Go.Rf
set_option linter.unusedSectionVars false
variable [T:Laid]
open Go.RowKit
def Az7 (E:Env) (c:FCfg) (f:FuncId) (ds:List Dyn) (x:c.rt.D):Prop:=
 ∀ (w:World) (S:Nat→Prop) (β:Key→Option Nat) (cs:List (List Value)),Sane w S β→tM S β w c.modes ds cs 0→Ap1 E.P f (yP ds cs).toArray w (Ret c x cs w S β)
def B3O (τ:Ty) (d:Dyn):Option (List τ.D):=iP d.t (.sl τ) d.x
def Bo2 (d:Dyn):Option Int:=iP d.t (.int .i64) d.x
theorem BD1 {d:Dyn} {n:Int} (h:Bo2 d=some n):d=⟨.int .i64,n⟩:=by
 obtain⟨t,x⟩:=d
 obtain⟨e,h⟩:=tD h
 cases e;cases h;rfl
section
variable {E:Env} {w w':World} {S:Nat→Prop} {β:Key→Option Nat} {keep:List Nat} {mv:List (Nat × Nat)} {ms:List Mode} {ax:List (List Value)}
theorem AY8 {b o:Nat} {cs:Array Value} (hB:Blk w b cs) {v:Value} (h:cs.toList[o]?=some v):w.cell? ⟨b,o,none⟩=some v:=by
 obtain⟨e,fz,hb⟩:=hB
 rw[A4] at h
 simp only[World.cell?,hb]
 simpa using h
theorem As4 (hs:Sane w S β) (h:Below w.heap.size w w'):Sane w' S β∧Step w S β w' S β:=
 ⟨⟨hs.inj,hs.sep,fun k b hk=>AI (hs.live k b hk) h.size,fun b hb=>AI (hs.liveS b hb) h.size,hs.tabs fun b hb=>⟨hb,h.block b (hs.liveS b hb)⟩⟩,
  ⟨h.size,fun b hb _=>h.block b hb,fun k b hk=>.inl ⟨k,hk⟩,fun _ h=>h,fun _ h=>.inl h,⟨h.os,h.tape,h.output⟩⟩⟩
theorem A3k (hs:Sane w S β) (h:Below w.heap.size w w') {t:List UInt8} (hio:AP9 S β w' ms ax 0 .unit ()):
  Ret ⟨ms,1,.pair .str .unit,.sh,keep,mv⟩ (t,()) ax w S β (.string ⟨⟨t⟩⟩) w':=by
 obtain⟨h1,h2⟩:=As4 hs h
 refine⟨S,β,[[.string ⟨⟨t⟩⟩]],h1,h2,?_,rfl,hio⟩
 simp only[mQ]
 refine⟨?_,trivial⟩
 refine xD.2 ?_
 simp[Rd]
def Bf6 (d:Dyn):Option (List UInt8):=iP d.t .str d.x
theorem BG5 {d:Dyn} {s:List UInt8} (h:Bf6 d=some s):d=⟨.str,s⟩:=by
 obtain⟨t,x⟩:=d
 obtain⟨e,h⟩:=tD h
 cases e;cases h;rfl
end
end Go.Rf

end
section
namespace Go.Rf
set_option linter.unusedSectionVars false
variable [T:Laid]
open Go.Shelf Go.RowKit Go.Lib Go.Proofs
section
variable {E:Env} {ρ:Ren} {w w':World} {S:Nat→Prop} {β:Key→Option Nat} {keep:List Nat} {mv:List (Nat × Nat)} {ms:List Mode} {ax:List (List Value)}
def B3Q:List Dyn→Option (Ty.pair .str .unit).D
 | [a,b]=>(Bf6 a).bind fun s=>(Bo2 b).bind fun n=>cond (decide (0≤n)&&(BP 0 s.length&&BQ (s.length * n.toNat) 1099511627776)) (some (repeatL s n.toNat,())) none
 | _=>none
theorem Bh2 {ds:List Dyn} {x:(Ty.pair .str .unit).D} (h:B3Q ds=some x):∃ (s:List UInt8) (n:Nat),ds=[⟨.str,s⟩,⟨.int .i64,(n:Int)⟩]∧0 < s.length∧s.length * n≤1099511627776∧x=(repeatL s n,()):=by
 unfold B3Q at h
 split at h
 ·rename_i a b
  obtain⟨s,h1,h⟩:=AJ.1 h
  obtain⟨n,h2,h⟩:=AJ.1 h
  rw[BG5 h1,BD1 h2]
  cases hb:(decide (0≤n)&&(BP 0 s.length&&BQ (s.length * n.toNat) 1099511627776)) with
  | false=>rw[hb] at h;cases h
  | true=>
   rw[hb] at h
   simp only[Af,Au,Nat.ble_eq,Nat.blt_eq] at hb
   exact⟨s,n.toNat,by rw[B1 hb.1],hb.2.1,hb.2.2,(Option.some.inj h).symm⟩
 ·cases h
theorem BT8 {f:FuncId} {fn:Func} (L:Lays.n105 E.P ρ) (X:Builder.Extra E.P ρ) (hf:ρ.f 105=f) (hfn:E.P.funcs[f]?=some fn) (hnm:(fn.name == "runtime.NumGoroutine")=false) (hbd:fn.body.isNone=false)
  (s:List UInt8) (n:Nat) (h1:0 < s.length) (h2:s.length * n≤1099511627776):
  Az7 E ⟨[.ro .str,.ro (.int .i64)],1,.pair .str .unit,.sh,keep,mv⟩ f [⟨.str,s⟩,⟨.int .i64,(n:Int)⟩] (repeatL s n,()):=by
 intro w S β cs hs ha
 match cs,ha with
 | [c1,c2],ha=>
  simp only[tM] at ha
  obtain⟨_,hv,_,hv2,_⟩:=ha
  simp only[Rd] at hv hv2
  subst hv hv2
  refine .inl ⟨fn,hfn,hnm,hbd,?_⟩
  have hn:n≤1099511627776:=by
   have:1 * n≤s.length * n:=Ac _ h1
   omega
  by_cases h0:n=0
  ·subst h0
   have hcall:=Any.strings_Repeat_zero L ⟨⟨s⟩⟩ w
   rw[hf] at hcall
   refine hcall.mono ?_
   rintro e w' ⟨rfl,rfl⟩
   have e0:repeatL s 0=[]:=by simp[repeatL]
   rw[e0]
   exact A3k (t:=[]) hs (Below.refl _ _) (by simp[AP9])
  ·by_cases h1':n=1
   ·subst h1'
    have hcall:=Any.strings_Repeat_one L ⟨⟨s⟩⟩ w
    rw[hf] at hcall
    refine hcall.mono ?_
    rintro e w' ⟨rfl,rfl⟩
    have e0:repeatL s 1=s:=by simp[repeatL]
    rw[e0]
    exact A3k (t:=s) hs (Below.refl _ _) (by simp[AP9])
   ·have hcall:=Any.strings_Repeat_main L X ⟨⟨s⟩⟩ n w (by omega) (by omega) (Bm h2 (by decide)) h1
    rw[hf] at hcall
    refine hcall.mono ?_
    rintro e w' ⟨rfl,hw⟩
    exact A3k (t:=repeatL s n) hs hw (by simp[AP9])
 | [],ha|[_],ha=>simp[tM] at ha
 | _ :: _ :: _ :: _,ha=>simp[tM] at ha
noncomputable def okH (E:Env) (f:FuncId) (h:List Dyn→Option (E.cfg f).rt.D):List Dyn→Option (E.cfg f).rt.D:=fun ds=>
 (h ds).bind fun x=>@ite _ (Bw3 E f ds x) (Classical.propDecidable _) (some x) none
theorem A6Z {f:FuncId} {h:List Dyn→Option (E.cfg f).rt.D} {ds:List Dyn} {x:(E.cfg f).rt.D} (e:okH E f h ds=some x):Bw3 E f ds x:=by
 unfold okH at e
 obtain⟨y,h1,h2⟩:=AJ.1 e
 split at h2
 ·rename_i hk
  cases h2;exact hk
 ·cases h2
theorem A5N {f:FuncId} {h:List Dyn→Option (E.cfg f).rt.D} {ds:List Dyn} {x:(E.cfg f).rt.D} (e:h ds=some x) (hk:Bw3 E f ds x):okH E f h ds=some x:=by
 unfold okH
 rw[e]
 exact Aq hk
end
end Go.Rf

end
section
namespace Go.Rf
set_option linter.unusedSectionVars false
variable [T:Laid]
open Go.Shelf Go.RowKit Go.Lib Go.Proofs
section
variable {E:Env} {w w':World} {S:Nat→Prop} {β:Key→Option Nat} {keep:List Nat} {mv:List (Nat × Nat)} {ms:List Mode}
theorem Ai5 (hs:Sane w S β) (h:Below w.heap.size w w'):Sane w' S (fun _=>none):=
 ⟨fun _ _ _ h=>(by cases h),fun _ _ h=>(by cases h),fun _ _ h=>(by cases h),fun b hb=>AI (hs.liveS b hb) h.size,hs.tabs fun b hb=>⟨hb,h.block b (hs.liveS b hb)⟩⟩
theorem A9V {f:FuncId} {ds:List Dyn} {t:List UInt8} (h:Az7 E ⟨ms,1,.pair .str .unit,.sh,keep,mv⟩ f ds (t,())) {cs:List (List Value)} (hs:Sane w S (fun _=>none)) (ha:tM S (fun _=>none) w ms ds cs 0)
  (he:(callFunc f (yP ds cs).toArray).run E.P w=.ok (.enter f (yP ds cs).toArray) w):
  Calls E.P f (yP ds cs).toArray w fun e w'=>e=.returned (.string ⟨⟨t⟩⟩)∧Below w.heap.size w w':=by
 rcases h w S _ cs hs ha with ⟨fn,h1,h2,h3,h4⟩| ⟨v,w',h1,_⟩
 ·refine h4.mono fun e w' he=>?_
  cases e with
  | returned v=>
   obtain⟨S',β',crs,h5,h6,h7,h8,_⟩:=he
   match crs,h7 with
   | [c],h7=>
    simp only[mQ] at h7
    have h9:=xD.1 h7.1
    simp only[Rd] at h9
    subst h9
    refine⟨by rw[h8];rfl,h6.out.os,h6.out.tape,h6.out.output,h6.size,fun k hk=>h6.old k hk fun _ e=>(by cases e)⟩
   | [],h7=>simp[mQ] at h7
   | _ :: _ :: _,h7=>simp[mQ] at h7
  | _=>exact he.elim
 ·rw[he] at h1;cases h1
theorem A97 {T' e:TypeId} {B b:Nat} {bs:List Value} (h:IsBuilder T' e B b bs w) (hb:Below w.heap.size w w'):IsBuilder T' e B b bs w':=by
 have k:∀ p,BuilderAt T' e B b p bs w→BuilderAt T' e B b p bs w':=fun p h=>by
  have hl:=h.lt
  obtain⟨hB,v,h1,h2,h3⟩:=h
  exact⟨hB,v,by rw[hb.block b hl];exact h1,h2.kept (row:=none) ⟨hb.os,hb.tape,hb.output,hb.size,fun k hk _=>hb.block k hk⟩ (by cases v.ownBlock<;>simp),h3⟩
 exact h.imp (k _) (k _)
theorem Ak4 {B:Nat} (h:Below w.heap.size w w') (hB:B≤w.heap.size):Below B w w':=⟨h.os,h.tape,h.output,h.size,fun k hk=>h.block k (AI hk hB)⟩
end
end Go.Rf

end
section
namespace Go.Proofs
open Go.Shelf Go.RowKit
def Tryz.laysRep_ren:Go.Shelf.Ren:=⟨fun|105=>311|212=>345|99=>346|165=>347|166=>320|170=>348|169=>323|263=>368|264=>369|206=>370|240=>353|241=>371|276=>378|277=>380|n=>n,fun|9=>9|3=>3|4=>4|20=>20|0=>0|46=>161|109=>321|5=>5|72=>298|76=>301|51=>288|146=>338|53=>329|148=>340|70=>296|37=>94|75=>300|127=>328|164=>348|80=>150|n=>n,fun|n=>n⟩
theorem Tryz.laysRep:Go.Proofs.Lays.n105 Ab Tryz.laysRep_ren:={
 mixed:=by kernel_rfl
 f99:=Tryz.func346.trans (Aj some (by kernel_rfl))
 f105:=Tryz.func311.trans (Aj some (by kernel_rfl))
 f165:=Tryz.func347.trans (Aj some (by kernel_rfl))
 f166:=Tryz.func320.trans (Aj some (by kernel_rfl))
 f169:=Tryz.func323.trans (Aj some (by kernel_rfl))
 f170:=Tryz.func348.trans (Aj some (by kernel_rfl))
 f206:=Tryz.func370.trans (Aj some (by kernel_rfl))
 f212:=Tryz.func345.trans (Aj some (by kernel_rfl))
 f240:=Tryz.func353.trans (Aj some (by kernel_rfl))
 f241:=Tryz.func371.trans (Aj some (by kernel_rfl))
 f263:=Tryz.func368.trans (Aj some (by kernel_rfl))
 f264:=Tryz.func369.trans (Aj some (by kernel_rfl))
 f276:=Tryz.func378.trans (Aj some (by kernel_rfl))
 f277:=Tryz.func380.trans (Aj some (by kernel_rfl))
 t0:=AO
 a0:=Bu
 z0:=Bn
 v0:=AU
 t3:=AB
 a3:=Bv
 z3:=Bo
 v3:=AV
 t4:=AC
 a4:=Bw
 z4:=Bp
 v4:=AW
 t5:=Tryz.underlying5
 a5:=Tryz.isAgg5
 z5:=Tryz.sizeOf5
 v5:=Tryz.zeroValue5
 t9:=BG
 a9:=Tryz.isAgg9
 z9:=Tryz.sizeOf9
 v9:=BL
 t20:=BB
 a20:=Tryz.isAgg20
 z20:=BO
 v20:=BH
 t37:=Tryz.underlying94
 a37:=Tryz.isAgg94
 z37:=Tryz.sizeOf94
 v37:=Tryz.zeroValue94
 t46:=Tryz.underlying161
 a46:=Tryz.isAgg161
 z46:=Tryz.sizeOf161
 v46:=Tryz.zeroValue161
 t51:=Tryz.underlying288
 a51:=Tryz.isAgg288
 z51:=Tryz.sizeOf288
 v51:=Tryz.zeroValue288
 t53:=Tryz.underlying329
 a53:=Tryz.isAgg329
 z53:=Tryz.sizeOf329
 v53:=Tryz.zeroValue329
 t70:=Tryz.underlying296
 a70:=Tryz.isAgg296
 z70:=Tryz.sizeOf296
 v70:=Tryz.zeroValue296
 t72:=Tryz.underlying298
 a72:=Tryz.isAgg298
 z72:=Tryz.sizeOf298
 v72:=Tryz.zeroValue298
 t75:=Tryz.underlying300
 a75:=Tryz.isAgg300
 z75:=Tryz.sizeOf300
 v75:=Tryz.zeroValue300
 t76:=Tryz.underlying301
 a76:=Tryz.isAgg301
 z76:=Tryz.sizeOf301
 v76:=Tryz.zeroValue301
 t109:=Tryz.underlying321
 a109:=Tryz.isAgg321
 z109:=Tryz.sizeOf321
 v109:=Tryz.zeroValue321
 t127:=Tryz.underlying328
 a127:=Tryz.isAgg328
 z127:=Tryz.sizeOf328
 v127:=Tryz.zeroValue328
 t146:=Tryz.underlying338
 a146:=Tryz.isAgg338
 z146:=Tryz.sizeOf338
 v146:=Tryz.zeroValue338
 t148:=Tryz.underlying340
 a148:=Tryz.isAgg340
 z148:=Tryz.sizeOf340
 v148:=Tryz.zeroValue340
 t164:=Tryz.underlying348
 a164:=Tryz.isAgg348
 z164:=Tryz.sizeOf348
 v164:=Tryz.zeroValue348 }
theorem Tryz.extra:Builder.Extra Ab Tryz.laysRep_ren:={
 sizeBuilder:=by kernel_rfl
 liesBuilder:=by kernel_rfl
 t5:=Tryz.laysRep.t5
 a5:=Tryz.laysRep.a5
 z5:=Tryz.laysRep.z5
 v5:=Tryz.laysRep.v5
 infoByte:=by kernel_rfl
 cellsByte:=by kernel_rfl
 sizeByte:=by kernel_rfl
 neB5:=by decide }
end Go.Proofs

end
section
namespace Go.Rf
set_option linter.unusedSectionVars false
variable [T:Laid]
open Go.Shelf Go.RowKit Go.Lib Go.Proofs
section
variable {E:Env} {w w':World} {S:Nat→Prop} {β:Key→Option Nat} {keep keep':List Nat} {mv mv':List (Nat × Nat)} {ms:List Mode}
theorem A8y (t:List UInt8):strCells ⟨⟨t⟩⟩=Lib.byteCells t:=by simp[strCells,Lib.byteCells]
theorem B3A (a b:List UInt8):Lib.byteCells a++Lib.byteCells b=Lib.byteCells (a++b):=by simp[Lib.byteCells]
def BN9 (x:List UInt8→List UInt8→List UInt8) (bl:Nat→List UInt8) (count:Nat) (t:List UInt8):Nat→List UInt8
 | 0=>[]
 | k+1=>BN9 x bl count t k++x ((t.drop (64 * k)).take 64) (bl (count+k))
set_option maxHeartbeats 6400000 in
set_option maxRecDepth 100000 in
theorem BW6 {k1 k2:List Nat} {m1 m2:List (Nat × Nat)} (hE:E.P=Ab) (x:List UInt8→List UInt8→List UInt8) (bl:Nat→List UInt8) (key nonce t:List UInt8) (count:Nat) (ht:t.length≤1048576) (hc:count≤1000000)
  (hst:∀ c:Nat,c≤2000000→Az7 E ⟨[.ro .str,.ro .str,.ro (.int .i64)],1,.pair .str .unit,.sh,k1,m1⟩ 322 [⟨.str,key⟩,⟨.str,nonce⟩,⟨.int .i64,(c:Int)⟩] (bl c,()))
  (hx:∀ (a:List UInt8) (c:Nat),c≤2000000→a.length≤64→Az7 E ⟨[.ro .str,.ro .str],1,.pair .str .unit,.sh,k2,m2⟩ 321 [⟨.str,a⟩,⟨.str,bl c⟩] (x a (bl c),()))
  (hxl:∀ (a:List UInt8) (c:Nat),c≤2000000→a.length≤64→(x a (bl c)).length≤64):
  Az7 E ⟨[.ro .str,.ro .str,.ro (.int .i64),.ro .str],1,.pair .str .unit,.sh,keep',mv'⟩ 273 [⟨.str,key⟩,⟨.str,nonce⟩,⟨.int .i64,(count:Int)⟩,⟨.str,t⟩] (BN9 x bl count t ((t.length+63) / 64),()):=by
 intro w S β cs hs ha
 match cs,ha with
 | [c1,c2,c3,c4],ha=>
  simp only[tM] at ha
  obtain⟨_,v1,_,v2,_,v3,_,v4,_⟩:=ha
  simp only[Rd] at v1 v2 v3 v4
  subst v1 v2 v3 v4
  rw[hE]
  refine .inl ⟨Tryz.f273,Tryz.func273,by kernel_rfl,by kernel_rfl,?_⟩
  show Calls Ab 273 #[.string ⟨⟨key⟩⟩,.string ⟨⟨nonce⟩⟩,.int .i64 count,.string ⟨⟨t⟩⟩] w _
  have hs1:∀ (c:Nat),c≤2000000→∀ wr,Below w.heap.size w wr→Calls Ab 322 #[.string ⟨⟨key⟩⟩,.string ⟨⟨nonce⟩⟩,.int .i64 c] wr fun e w'=>e=.returned (.string ⟨⟨bl c⟩⟩)∧Below wr.heap.size wr w':=fun c hc wr hb=>by
   have:=A9V (cs:=[[.string ⟨⟨key⟩⟩],[.string ⟨⟨nonce⟩⟩],[.int .i64 c]]) (hst c hc) (Ai5 hs hb) ⟨rfl,by simp only[Rd],rfl,by simp only[Rd],rfl,by simp only[Rd],trivial⟩ (by rw[hE];exact enters_of Tryz.func322 (by kernel_rfl) rfl _ _)
   rw[hE] at this
   exact this
  have hs2:∀ (a:List UInt8) (c:Nat),c≤2000000→a.length≤64→∀ wr,Below w.heap.size w wr→Calls Ab 321 #[.string ⟨⟨a⟩⟩,.string ⟨⟨bl c⟩⟩] wr fun e w'=>e=.returned (.string ⟨⟨x a (bl c)⟩⟩)∧Below wr.heap.size wr w':=fun a c hc hl wr hb=>by
   have:=A9V (cs:=[[.string ⟨⟨a⟩⟩],[.string ⟨⟨bl c⟩⟩]]) (hx a c hc hl) (Ai5 hs hb) ⟨rfl,by simp only[Rd],rfl,by simp only[Rd],trivial⟩ (by rw[hE];exact enters_of Tryz.func321 (by kernel_rfl) rfl _ _)
   rw[hE] at this
   exact this
  have hxc:∀ k,count+k≤2000000→(BN9 x bl count t k).length≤64 * k:=fun k=>by
   induction k with
   | zero=>exact fun _=>AK _
   | succ k ih=>
    intro h
    have:=hxl ((t.drop (64 * k)).take 64) (count+k) (by omega) (by rw[As];omega)
    have:=ih (by omega)
    rw[BN9,Aa];omega
  go_enter Tryz.func273,Tryz.ntmps273
  go_wp2
  go_loopw [10] (fun i wr=>∃ k:Nat,k≤(t.length+63) / 64∧i=.int .i64 ((64 * k:Nat):Int)∧Lib.IsBuilder 298 5 w.heap.size w.heap.size (Lib.byteCells (BN9 x bl count t k)) wr∧Below w.heap.size w wr)
   (fun i _=>t.length+64 - (RowKit.intOf i).toNat)
  case atStart=>exact⟨0,A6 _,rfl,Lib.fresh_isBuilder 298 5 w,(Below.refl _ w).alloc (AK _) _⟩
  case round=>
   obtain⟨k,hk,rfl,hI,hnx⟩:=hrel
   by_cases hp:64 * k < t.length
   ·have hsl:(Instr.slice 9 (.string ⟨⟨t⟩⟩) (some (.int .i64 (64 * (k:Int)))) (some (.int .i64 (min (64 * (k:Int)+64) (t.length:Int)))) none).run Ab wr=.ok (.string ⟨⟨(t.drop (64 * k)).take 64⟩⟩) wr:=by
     have hz:(⟨⟨t⟩⟩:ByteArray).size=t.length:=rfl
     rw[run_slice_string wr 9 ⟨⟨t⟩⟩ .i64 .i64 (64 * (k:Int)) (min (64 * (k:Int)+64) (t.length:Int)) (by kernel_rfl) (by omega) (by omega) (by rw[hz];omega),show (64 * (k:Int)).toNat=64 * k by omega]
     have he:=ByteArray.extract_mk t (64 * k) (min (64 * (k:Int)+64) (t.length:Int)).toNat
     have hm:((t.drop (64 * k)).take ((min (64 * (k:Int)+64) (t.length:Int)).toNat - 64 * k))=(t.drop (64 * k)).take 64:=by
      rw[Bs,Bs (i:=64),Ay]
      congr 1;omega
     rw[hm] at he
     exact Aj (fun b=>Result.ok (Value.string b) wr) he
    have hdl:((t.drop (64 * k)).take 64).length≤64:=by rw[As];omega
    go_wp2_with (go_at_call 322;refine (hs1 (count+k) (by omega) wr hnx).mono ?_)
    rintro e W1 ⟨rfl,hb1⟩
    have hn1:Below w.heap.size w W1:=hnx.trans (Ak4 hb1 hnx.size)
    go_wp2_with (go_at_call 321;refine (hs2 ((t.drop (64 * k)).take 64) (count+k) (by omega) hdl W1 hn1).mono ?_)
    rintro e W2 ⟨rfl,hb2⟩
    have hI2:=A97 (A97 hI hb1) hb2
    have hn2:Below w.heap.size w W2:=hn1.trans (Ak4 hb2 hn1.size)
    go_wp2_with (go_at_call 320;refine (Any.Builder_WriteString { Tryz.laysRep with } Tryz.extra w.heap.size w.heap.size _ ⟨⟨x ((t.drop (64 * k)).take 64) (bl (count+k))⟩⟩ W2 hI2 ?c1 hn2.size).mono ?_)
    case c1=>
     have:=hxl ((t.drop (64 * k)).take 64) (count+k) (by omega) hdl
     have:=hxc k (by omega)
     show _+(x ((t.drop (64 * k)).take 64) (bl (count+k))).length≤_
     simp only[Lib.byteCells,BJ]
     omega
    rintro e W3 ⟨rfl,hI3,hb3⟩
    rw[A8y,B3A] at hI3
    go_wp2
    go_roundw
    case rel=>exact⟨k+1,by omega,by go_num,.inr hI3,hn2.trans hb3⟩
    case measure=>simp[RowKit.intOf];omega
   ·have:k=(t.length+63) / 64:=by omega
    subst this
    go_wp2_with (go_at_call 323;refine (Any.Builder_String_any { Tryz.laysRep with } Tryz.extra w.heap.size w.heap.size _ wr hI hnx.size).mono ?_)
    rintro e W2 ⟨rfl,hb2⟩
    go_wp2
    go_ret
    exact A3k (t:=BN9 x bl count t ((t.length+63) / 64)) hs (hnx.trans hb2) (by simp[AP9])
 | [],ha|[_],ha|[_,_],ha|[_,_,_],ha=>simp[tM] at ha
 | _ :: _ :: _ :: _ :: _ :: _,ha=>simp[tM] at ha
end
end Go.Rf

end
section
namespace Go.Rf
set_option linter.unusedSectionVars false
variable [T:Laid]
open Go.Shelf Go.RowKit Go.Lib Go.Proofs Go.Maps
theorem BD6 {H:Type} {P:Program} {e:TypeId} (he:P.underlying e=some .bool) {v:Value} {z:DataW H × List MemPlace} (h:plainElem P e v=some z):∃ a,v=.bool a∧z=(.lit (.bool a),[]):=by
 unfold plainElem at h
 rw[he] at h
 cases v<;>simp at h
 exact⟨_,rfl,h.symm⟩
theorem Bd4 {H:Type} {P:Program} {k t e:TypeId} {b n:Nat} {D:DataW H} {w:World} (h:w.ownsMap P k (plainElem P e) b n D) (K:Keyed P k) (ht:P.underlying t=some (.map k e)) (he:P.underlying e=some .bool) (hz:(zeroValue e).run P w=.ok (.bool false) w)
  {key:Value} {kl:Lit} (hkey:keyOf P k key=some kl):∃ c,(Instr.lookup t (.map (some b)) key false).run P w=.ok (.bool c) w∧D.atKey kl (.lit (.bool false))=.lit (.bool c):=by
 obtain⟨v,ps,hrun,hv⟩:=h.lookup K ht hz (plainElem_bool he false) hkey
 obtain⟨c,rfl,hc⟩:=BD6 he hv
 simp only[Prod.mk.injEq] at hc
 exact⟨c,hrun,hc.1⟩
section
variable {E:Env} {w w':World} {S:Nat→Prop} {β:Key→Option Nat} {keep keep':List Nat} {mv mv':List (Nat × Nat)} {ms:List Mode}
theorem A4t {f:FuncId} {ds:List Dyn} {t:Bool} (h:Az7 E ⟨ms,1,.pair .bool .unit,.sh,keep,mv⟩ f ds (t,())) {cs:List (List Value)} (hs:Sane w S (fun _=>none)) (ha:tM S (fun _=>none) w ms ds cs 0)
  (he:(callFunc f (yP ds cs).toArray).run E.P w=.ok (.enter f (yP ds cs).toArray) w):
  Calls E.P f (yP ds cs).toArray w fun e w'=>e=.returned (.bool t)∧Below w.heap.size w w':=by
 rcases h w S _ cs hs ha with ⟨fn,h1,h2,h3,h4⟩| ⟨v,w',h1,_⟩
 ·refine h4.mono fun e w' he=>?_
  cases e with
  | returned v=>
   obtain⟨S',β',crs,h5,h6,h7,h8,_⟩:=he
   match crs,h7 with
   | [c],h7=>
    simp only[mQ] at h7
    have h9:=xD.1 h7.1
    simp only[Rd] at h9
    subst h9
    refine⟨by rw[h8];rfl,h6.out.os,h6.out.tape,h6.out.output,h6.size,fun k hk=>h6.old k hk fun _ e=>(by cases e)⟩
   | [],h7=>simp[mQ] at h7
   | _ :: _ :: _,h7=>simp[mQ] at h7
  | _=>exact he.elim
 ·rw[he] at h1;cases h1
theorem A0Z (hs:Sane w S β) (h:Below w.heap.size w w') {t:Bool} {ax:List (List Value)} (hio:AP9 S β w' ms ax 0 .unit ()):
  Ret ⟨ms,1,.pair .bool .unit,.sh,keep,mv⟩ (t,()) ax w S β (.bool t) w':=by
 obtain⟨h1,h2⟩:=As4 hs h
 refine⟨S,β,[[.bool t]],h1,h2,?_,rfl,hio⟩
 simp only[mQ]
 refine⟨?_,trivial⟩
 refine xD.2 ?_
 simp[Rd]
abbrev tO:Ty:=.pair (.sl (.int .i64)) (.pair (.sl (.pair (.int .i64) (.pair (.int .i64) (.pair (.int .i64) .unit)))) (.pair (.sl (.sl (.pair (.int .i64) (.pair (.int .i64) (.pair (.int .i64) .unit))))) .unit))
abbrev tE:Ty:=.pair (.sl (.int .i64)) (.pair tO .unit)
def Bs1 {H:Type} (D:DataW H) (seen:List Int):Prop:=IsMap D∧∀ x:Int,D.atKey (.int .i64 x) (.lit (.bool false))=.lit (.bool (AS3 seen x))
theorem Bs1.put {H:Type} {D:DataW H} {seen:List Int} (h:Bs1 D seen) (k:Int):Bs1 (D.put (.int .i64 k) (.lit (.bool true))) (seen++[k]):=by
 refine⟨?_,fun x=>?_⟩
 ·obtain⟨es,rfl⟩:=h.1
  exact⟨_,rfl⟩
 ·rw[AW2]
  by_cases hx:x=k
  ·subst hx
   rw[atKey_put_same h.1 (by simp[WideAt.IsKeyLit])]
   simp[AS3]
  ·rw[atKey_put_other (fun e=>hx (by cases e;rfl)),h.2 x]
   have:AS3 [k] x=false:=by simp[AS3];exact fun e=>hx e.symm
   rw[this,AR]
theorem B3Z (w:World):(zeroValue 4).run Ab w=.ok (.bool false) w:=by kernel_rfl
theorem B4P:Keyed Ab 3:=int_keyed AB
theorem A08 (seen:List Int) (k:Int) (r:List Int):A4M seen (k :: r)=if k=0 then A4M seen r else (inR k 1 9999&&!AS3 seen k)&&A4M (seen++[k]) r:=rfl
set_option maxHeartbeats 6400000 in
set_option maxRecDepth 100000 in
theorem B2x {k1 k2:List Nat} {m1 m2:List (Nat × Nat)} (hE:E.P=Ab) (e:TE) (hn:e.1.length≤1048576)
  (hk:∀ x ∈ e.1,Az7 E ⟨[.ro (.int .i64)],1,.pair .bool .unit,.sh,k1,m1⟩ 228 [⟨.int .i64,x⟩] (inR x 1 9999,()))
  (ho:Az7 E ⟨[.ro tO],1,.pair .bool .unit,.sh,k2,m2⟩ 229 [⟨tO,e.2.1⟩] (Az0 e.2.1,())):
  Az7 E ⟨[.ro tE],1,.pair .bool .unit,.sh,keep',mv'⟩ 162 [⟨tE,e⟩] (AZ8 e,()):=by
 intro w S β cs hs ha
 match cs,ha with
 | [c1],ha=>
  simp only[tM] at ha
  obtain⟨_,hv,_⟩:=ha
  have hl:c1.length=4:=qL hv
  match c1,hl,hv with
  | [vk,vp,vs,vb],_,hv=>
   have hv1:Rd S w (.sl (.int .i64)) e.1 [vk]:=hv.1
   have hv2:Rd S w tO e.2.1 [vp,vs,vb]:=hv.2.1
   have hvk:=hv1
   simp only[Rd] at hvk
   obtain⟨ad,cap,hvk,hcap,hel⟩:=hvk
   have hvk:vk=.slice ad e.1.length cap:=(List.cons.inj hvk).1
   subst hvk
   have hcell:∀ i (x:Int),e.1[i]?=some x→∃ b o,ad=some ⟨b,o,none⟩∧b < w.heap.size∧w.cell? ⟨b,o+i,none⟩=some (.int .i64 x):=fun i x hx=>by
    have hi:=(Ag.1 hx).1
    rcases hel with h0|⟨b,o,cs,rfl,hS,⟨e',fz,hb⟩,hsz,hel⟩
    ·rw[h0] at hi;exact absurd hi (AT _)
    ·have h1:=hel i x hx
     have hs1:(Ty.int IntKind.i64).size=1:=rfl
     rw[hs1] at h1 hsz
     refine⟨b,o,rfl,hs.liveS b hS,?_⟩
     have e2:w.cell? ⟨b,o+i,none⟩=cs[o+i]?:=Lib.cell_of_heap hb (o+i)
     have e3:cs[o+i]?=some (.int .i64 x):=by
      have h2:=Aj (fun l:List Value=>l[0]?) h1
      simp only[win,A1,A2] at h2
      simpa using h2
     exact e2.trans e3
   rw[hE]
   refine .inl ⟨Tryz.f162,Tryz.func162,by kernel_rfl,by kernel_rfl,?_⟩
   show Calls Ab 162 #[.agg #[.slice ad e.1.length cap,vp,vs,vb]] w _
   have hkc:∀ (x:Int),x ∈ e.1→∀ wr,Below w.heap.size w wr→Calls Ab 228 #[.int .i64 x] wr fun ex w'=>ex=.returned (.bool (inR x 1 9999))∧Below wr.heap.size wr w':=fun x hx wr hb=>by
    have:=A4t (cs:=[[.int .i64 x]]) (hk x hx) (Ai5 hs hb) ⟨rfl,by simp only[Rd],trivial⟩ (by rw[hE];exact enters_of Tryz.func228 (by kernel_rfl) rfl _ _)
    rw[hE] at this
    exact this
   have hoc:∀ wr,Below w.heap.size w wr→Calls Ab 229 #[.agg #[vp,vs,vb]] wr fun ex w'=>ex=.returned (.bool (Az0 e.2.1))∧Below wr.heap.size wr w':=fun wr hb=>by
    have:=A4t (cs:=[[vp,vs,vb]]) ho (Ai5 hs hb) ⟨rfl,yA (fun b hS=>⟨hS,hb.block b (hs.liveS b hS)⟩) hv2,trivial⟩ (by rw[hE];exact enters_of Tryz.func229 (by kernel_rfl) rfl _ _)
    rw[hE] at this
    exact this
   have hmm:=@run_makeMap Ab
   go_enter Tryz.func162,Tryz.ntmps162
   go_wp2
   obtain⟨BX,hBX⟩:∃ BX,BX=Obj.cells #[.slice ad e.1.length cap,vp,vs,vb] 125:=⟨_,rfl⟩
   go_loopw [10] (fun i wr=>∃ (k:Nat) (seen:List Int) (D:DataW Unit),k≤e.1.length∧i=.int .i64 k∧wr.ownsMap Ab 3 (plainElem Ab 4) (w.heap.size+1) k D∧Bs1 D seen∧A4M [] e.1=A4M seen (e.1.drop k)∧Below w.heap.size w wr∧wr.heap[w.heap.size]?=some BX)
    (fun i _=>e.1.length - (RowKit.intOf i).toNat)
   case atStart=>
    refine⟨0,[],.map [],A6 _,rfl,?_,⟨isMap_empty,fun x=>rfl⟩,by rw[List.drop_zero],((Below.refl _ w).alloc (AK _) _).alloc (by show _≤(w.heap.push _).size;rw[Br];omega) _,?_⟩
    have:=World.ownsMap_made (H:=Unit) (w.alloc (Obj.cells #[.slice ad e.1.length cap,vp,vs,vb] 125)) Ab 3 (plainElem Ab 4)
    ·rw[show (w.alloc (Obj.cells #[.slice ad e.1.length cap,vp,vs,vb] 125)).heap.size=w.heap.size+1 by show (w.heap.push _).size=_;rw[Br]] at this
     exact this
    ·rw[hBX];show ((w.heap.push _).push _)[w.heap.size]?=_
     rw[AX,A5 (by rw[Br];omega),AX,Aq rfl]
   case round=>
    obtain⟨k,seen,D,hk,rfl,hown,hset,hkey,hnx,hbx⟩:=hrel
    by_cases hp:k < e.1.length
    ·have hx:e.1[k]?=some e.1[k]:=Ah hp
     obtain⟨b,o,rfl,hb,hcl⟩:=hcell k _ hx
     have hcl':wr.cell? ⟨b,o+k,none⟩=some (.int .i64 e.1[k]):=by rw[hnx.cell (p:=⟨b,o+k,none⟩) hb];exact hcl
     have hmem:e.1[k] ∈ e.1:=BF hp
     have hdr:e.1.drop k=e.1[k] :: e.1.drop (k+1):=List.drop_eq_getElem_cons hp
     rw[hdr] at hkey
     generalize e.1[k]=x at hx hcl hcl' hmem hkey
     rw[A08] at hkey
     by_cases h0:x=0
     ·subst h0
      rw[Aq rfl] at hkey
      go_wp2
      go_roundw
      case rel=>exact⟨k+1,seen,D,by omega,by go_num,hown.mono (Nat.le_succ _),hset,hkey,hnx,hbx⟩
      case measure=>simp[RowKit.intOf];omega
     ·rw[A5 h0] at hkey
      cases hr:inR x 1 9999 with
      | false=>
       go_wp2_with (go_at_call 228;refine (hkc x hmem wr hnx).mono ?_)
       rw[hr]
       rintro ex W1 ⟨rfl,hb1⟩
       go_wp2
       go_ret
       rw[hr] at hkey
       have he:AZ8 e=false:=by unfold AZ8;rw[hkey];rfl
       rw[he]
       exact A0Z hs (hnx.trans (Ak4 hb1 hnx.size)) (by simp[AP9])
      | true=>
       go_wp2_with (go_at_call 228;refine (hkc x hmem wr hnx).mono ?_)
       rw[hr]
       rintro ex W1 ⟨rfl,hb1⟩
       have hn1:Below w.heap.size w W1:=hnx.trans (Ak4 hb1 hnx.size)
       have hown1:W1.ownsMap Ab 3 (plainElem Ab 4) (w.heap.size+1) k D:=hown.kept (row:=none) ⟨hb1.os,hb1.tape,hb1.output,hb1.size,fun k hk _=>hb1.block k hk⟩ (by simp)
       have hbx1:W1.heap[w.heap.size]?=some BX:=by rw[hb1.block _ (Be.1 hbx).1];exact hbx
       have hkl:keyOf Ab 3 (.int .i64 x)=some (.int .i64 x):=keyOf_int_mk AB (WalkArith.wf_i64 (by unfold inR at hr;simp only[Af,Au] at hr;omega))
       obtain⟨c,hrun,hat⟩:=Bd4 hown1 B4P B7 AC (B3Z _) hkl
       rw[hset.2 x] at hat
       have hc:c=AS3 seen x:=by cases hat;rfl
       rw[hc] at hrun
       rw[hr] at hkey
       cases hh:AS3 seen x with
       | true=>
        rw[hh] at hrun hkey
        go_wp2
        go_ret
        have he:AZ8 e=false:=by unfold AZ8;rw[hkey];rfl
        rw[he]
        exact A0Z hs hn1 (by simp[AP9])
       | false=>
        rw[hh] at hrun hkey
        go_wp2_with (first|(at_mapUpdate;refine wpList_mapUpdate_own _ rfl _ _ _ 241 rfl 3 4 B4P B7 _ (w.heap.size+1) k _ rfl hown1 (by unfold maxLen;omega) _ _ _ rfl rfl hkl _ [] (plainElem_bool AC true) ?_;intro w1 hown2 hgrow1)| go_in)
        go_roundw
        case rel=>exact⟨k+1,seen++[x],_,by omega,by go_num,hown2,hset.put x,by simpa using hkey,hn1.grown hgrow1 hn1.size (fun j hj=>by cases hj;omega),by rw[hgrow1.block _ (Be.1 hbx1).1 (by simp)];exact hbx1⟩
        case measure=>simp[RowKit.intOf];omega
    ·have hke:k=e.1.length:=by omega
     subst hke
     rw[List.drop_length] at hkey
     have hkey:A4M [] e.1=true:=hkey
     rw[hBX] at hbx
     have hc0:wr.cell? ⟨w.heap.size,0,none⟩=some (.slice ad e.1.length cap):=Lib.cell_of_heap hbx 0
     have hc1:wr.cell? ⟨w.heap.size,1,none⟩=some vp:=Lib.cell_of_heap hbx 1
     have hc2:wr.cell? ⟨w.heap.size,2,none⟩=some vs:=Lib.cell_of_heap hbx 2
     have hc3:wr.cell? ⟨w.heap.size,3,none⟩=some vb:=Lib.cell_of_heap hbx 3
     go_wp2_with (go_at_call 229;refine (hoc wr hnx).mono ?_)
     ·rename_i h11 _ _
      have h11:e.1.length=11:=Int.ofNat.inj h11
      have he:AZ8 e=Az0 e.2.1:=by unfold AZ8;rw[hkey,Ar h11];rfl
      rintro ex W1 ⟨rfl,hb1⟩
      go_wp2
      go_ret
      rw[he]
      exact A0Z hs (hnx.trans (Ak4 hb1 hnx.size)) (by simp[AP9])
     ·rename_i h11
      have h11:¬ e.1.length=11:=fun h=>h11 (Aj Int.ofNat h)
      have he:AZ8 e=false:=by unfold AZ8;rw[hkey,Ax h11];rfl
      go_ret
      rw[he]
      exact A0Z hs hnx (by simp[AP9])
 | [],ha=>simp[tM] at ha
 | _ :: _ :: _,ha=>simp[tM] at ha
end
end Go.Rf

end
section
namespace Go.Rf
set_option linter.unusedSectionVars false
variable [T:Laid]
open Go.Shelf Go.RowKit Go.Lib Go.Proofs
section
variable {P:Program} {ρ:Ren}
theorem kC {b:Nat} {e:TypeId} {fz:Nat × Nat}:∀ {vs:List Value} {o:Nat} {w:World} {cs:Array Value},w.heap[b]?=some (.cells cs e fz)→o+vs.length≤cs.size →
  ∃ cs',(w.setCells b o vs).heap[b]?=some (.cells cs' e fz)∧cs'.toList=dS cs.toList o vs∧(∀ b',b'≠b→(w.setCells b o vs).heap[b']?=w.heap[b']?)∧(w.setCells b o vs).heap.size=w.heap.size∧SameOut w (w.setCells b o vs)
 | [],o,w,cs,hb,_=>⟨cs,hb,by simp[dS],fun _ _=>rfl,rfl,.rfl'⟩
 | v :: vs,o,w,cs,hb,ho=>by
  simp only[A0] at ho
  have h1:(w.setCell ⟨b,o,none⟩ v).heap[b]?=some (.cells (cs.setIfInBounds o v) e fz):=by
   simp only[B3,AE,if_true,hb]
   simp
  have h2:∀ b',b'≠b→(w.setCell ⟨b,o,none⟩ v).heap[b']?=w.heap[b']?:=fun b' hb'=>by
   simp only[B3,AE]
   rw[A5 (Ne.symm hb')]
  have h3:(w.setCell ⟨b,o,none⟩ v).heap.size=w.heap.size:=by simp[B3]
  have h4:SameOut w (w.setCell ⟨b,o,none⟩ v):=⟨rfl,rfl,rfl⟩
  obtain⟨cs',k1,k2,k3,k4,k5⟩:=kC (vs:=vs) (o:=o+1) (w:=w.setCell ⟨b,o,none⟩ v) h1 (by rw[Array.size_setIfInBounds];omega)
  refine⟨cs',k1,?_,fun b' hb'=>(k3 b' hb').trans (h2 b' hb'),k4.trans h3,h4.trans k5⟩
  rw[k2,Array.toList_setIfInBounds]
  apply Az
  intro k
  rw[qI (by simp;omega),qI (by simp;omega),BA]
  by_cases h1:k < o
  ·rw[Aq (by omega),A5 (by omega),Aq h1]
  ·rw[A5 h1]
   by_cases h2:k=o
   ·subst h2
    rw[Aq (by omega),Aq rfl,Aq (by simp;omega),Aq (by simp)]
    simp
   ·rw[A5 (by omega)]
    have e:k - o=(k - (o+1))+1:=by omega
    rw[e,List.getElem?_cons_succ,A0]
    by_cases h3:k < o+1+vs.length
    ·rw[Aq h3,Aq (by omega)]
    ·rw[A5 h3,A5 (by omega),A5 (by omega)]
theorem AW9 (w:World) (dT sT ty elem:TypeId) (i:TypeInfo) (b o dLen dCap:Nat) (a:Addr) (sLen sCap n:Nat) (cs:List Value)
  (hu:P.underlying dT=some (.slice elem)) (hi:P.info? elem=some i) (hm:Nat.min sLen dLen=n) (hn:cs.length=n * i.size)
  (hsrc:∀ j v,cs[j]?=some v→w.cell? (a.add j)=some v) (hc:∀ j,j < cs.length→(w.cell? ⟨b,o+j,none⟩).isSome=true) (hf:∀ j,j < cs.length→w.frozen? ⟨b,o+j,none⟩=false) (h1:∀ v ∈ cs,v.oneCell'=true):
  (AG #[dT,sT] ty #[.slice (some ⟨b,o,none⟩) dLen dCap,.slice (some a) sLen sCap]).run P w=.ok (goInt n) (w.setCells b o cs):=by
 have hl:=run_loadCells_list (P:=P) w a cs hsrc
 have hst:=run_storeCells_cells (P:=P) b o cs 0 w (by simpa using hc) (by simpa using hf) h1
 simp[AG,run_underlying hu,Builtin.lenOf,Bf,sizeOf,typeInfo,hi,hm,← hn,hl,hst]
end
end Go.Rf

end
section
namespace Go.Rf
set_option linter.unusedSectionVars false
variable [T:Laid]
open Go.Shelf Go.RowKit Go.Lib Go.Proofs
structure InsL (P:Program) (ρ:Ren) (i0:TypeInfo) (zr:Value) (k:Nat):Prop where
 mixed:P.follows .mixedOrders=true
 f22:Bears P (ρ.f 22) (Body2.n22 ρ)
 t0:P.underlying (ρ.t 0)=some (TypeDesc.tuple #[])
 a0:∀ w,(isAgg (ρ.t 0)).run P w=.ok false w
 z0:∀ w,(Bk (ρ.t 0)).run P w=.ok 1 w
 v0:∀ w,(zeroValue (ρ.t 0)).run P w=.ok (Value.tuple #[]) w
 t3:P.underlying (ρ.t 3)=some (TypeDesc.int IntKind.i64)
 a3:∀ w,(isAgg (ρ.t 3)).run P w=.ok false w
 z3:∀ w,(Bk (ρ.t 3)).run P w=.ok 1 w
 v3:∀ w,(zeroValue (ρ.t 3)).run P w=.ok (Value.int IntKind.i64 0) w
 t4:P.underlying (ρ.t 4)=some (TypeDesc.bool)
 a4:∀ w,(isAgg (ρ.t 4)).run P w=.ok false w
 z4:∀ w,(Bk (ρ.t 4)).run P w=.ok 1 w
 v4:∀ w,(zeroValue (ρ.t 4)).run P w=.ok (Value.bool false) w
 t24:P.underlying (ρ.t 24)=some (TypeDesc.slice (ρ.t 9))
 a24:∀ w,(isAgg (ρ.t 24)).run P w=.ok false w
 z24:∀ w,(Bk (ρ.t 24)).run P w=.ok 1 w
 v24:∀ w,(zeroValue (ρ.t 24)).run P w=.ok (Value.slice none 0 0) w
 z9:∀ w,(Bk (ρ.t 9)).run P w=.ok k w
 info:P.info? (ρ.t 9)=some i0
 size:i0.size=k
 zero:i0.zero=some zr
 zs:zr.cells.size=k
 bytes:i0.bytes≤128
 pos:0 < k
section
variable {P:Program} {ρ:Ren} {i0:TypeInfo} {zr:Value} {k:Nat}
set_option maxHeartbeats 4000000 in
set_option maxRecDepth 100000 in
theorem A56 (L:InsL P ρ i0 zr k) (b off n c i vb voff m vc:Nat) (cs vs:List Value) (w:World) (hi:i < n) (hm:0 < m) (hroom:n+m≤c) (hc63:n+m≤9223372036854775807) (hvb:vb≠b)
  (hcl:cs.length=n * k) (hvl:vs.length=m * k)
  (hcs:∀ j v,cs[j]?=some v→w.cell? ⟨b,off+j,none⟩=some v) (hsp:∀ j,j < (n+m) * k→(w.cell? ⟨b,off+j,none⟩).isSome=true) (hfz:∀ j,j < (n+m) * k→w.frozen? ⟨b,off+j,none⟩=false)
  (hvs:∀ j v,vs[j]?=some v→w.cell? ⟨vb,voff+j,none⟩=some v) (h1c:∀ v ∈ cs,v.oneCell'=true) (h1v:∀ v ∈ vs,v.oneCell'=true)
  (hov:∀ lb cb,(callFunc (ρ.f 29) #[.slice (some ⟨vb,voff,none⟩) m vc,.slice (some ⟨b,off+(i+m) * k,none⟩) lb cb]).run P w=.ok (.value (.bool false)) w):
  Calls P (ρ.f 22) #[.slice (some ⟨b,off,none⟩) n c,.int .i64 i,.slice (some ⟨vb,voff,none⟩) m vc] w fun e w'=>
   e=.returned (.slice (some ⟨b,off,none⟩) (n+m) c)∧w'=(w.drew.setCells b (off+(i+m) * k) (cs.drop (i * k))).setCells b (off+i * k) vs:=by
 have t0:=L.t0;have a0:=L.a0;have z0:=L.z0;have v0:=L.v0;have t3:=L.t3;have a3:=L.a3;have z3:=L.z3;have v3:=L.v3;have t4:=L.t4;have a4:=L.a4;have z4:=L.z4;have v4:=L.v4;have z9:=L.z9;have t24:=L.t24;have a24:=L.a24;have z24:=L.z24;have v24:=L.v24
 have u0:=run_underlying L.t0;have u3:=run_underlying L.t3;have u4:=run_underlying L.t4;have u24:=run_underlying L.t24
 have hz1:¬ ((m:Int)=0):=by omega
 have hz2:¬ ((i:Int)=(n:Int)):=by omega
 have hik:i * k≤n * k:=Ac k (by omega)
 have hnm:(n+m) * k=n * k+m * k:=An _ _ _
 have him:(i+m) * k=i * k+m * k:=An _ _ _
 have hni:(n - i) * k=n * k - i * k:=Bh _ _ _
 have hdl:(cs.drop (i * k)).length=(n - i) * i0.size:=by rw[Ay,hcl,L.size,hni]
 have hvl':vs.length=m * i0.size:=by rw[hvl,L.size]
 have mixed:=L.mixed
 have hw1:IntKind.i64.wrap ((i:Int)+(m:Int))=(i:Int)+(m:Int):=by rw[IntKind.wrap_i64];omega
 have hb1:(0:Int)≤(i:Int)+(m:Int):=by omega
 have hin:i≤n:=by omega
 have htn:((i:Int)+(m:Int)).toNat=i+m:=by omega
 have hb2:¬ (c=i+m):=by omega
 have hb3:(i:Int)≤(n:Int)+(m:Int):=by omega
 have hb4:¬ (c=i):=by omega
 have hcp1:∀ ty dc sc,(AG #[(ρ.t 24),(ρ.t 24)] ty #[.slice (some ⟨b,off+(i+m) * k,none⟩) (n+m - (i+m)) dc,.slice (some ⟨b,off+i * k,none⟩) (n+m - i) sc]).run P w.drew=.ok (goInt ((n - i:Nat):Int)) (w.drew.setCells b (off+(i+m) * k) (cs.drop (i * k))):=fun ty dc sc=>
  AW9 w.drew _ _ ty (ρ.t 9) i0 b (off+(i+m) * k) (n+m - (i+m)) dc ⟨b,off+i * k,none⟩ (n+m - i) sc (n - i) (cs.drop (i * k)) L.t24 L.info (by simp only[Bx];split<;>omega) hdl
   (fun j v hj=>by rw[Addr.add_lit,A8];exact hcs (i * k+j) v (by rwa [A2] at hj))
   (fun j hj=>by rw[hdl,L.size] at hj;rw[A8];exact hsp _ (by omega)) (fun j hj=>by rw[hdl,L.size] at hj;rw[A8];exact hfz _ (by omega)) (fun v hv=>h1c v (By hv))
 obtain⟨W1,hW1⟩:∃ W1,W1=w.drew.setCells b (off+(i+m) * k) (cs.drop (i * k)):=⟨_,rfl⟩
 have hsp1:∀ t,t < (n+m) * k→(W1.cell? ⟨b,off+t,none⟩).isSome=true:=fun t ht=>by
  rw[hW1]
  exact isSome_setCells b _ _ _ (fun j hj=>by rw[hdl,L.size] at hj;rw[A8];exact hsp _ (by omega)) _ (hsp t ht)
 have hcp2:∀ (W:World),(∀ x,W.cell? x=W1.cell? x)→(∀ x,W.frozen? x=W1.frozen? x)→∀ ty dc,(AG #[(ρ.t 24),(ρ.t 24)] ty #[.slice (some ⟨b,off+i * k,none⟩) (n+m - i) dc,.slice (some ⟨vb,voff,none⟩) m vc]).run P W=.ok (goInt m) (W.setCells b (off+i * k) vs):=fun W hWc hWf ty dc=>
  AW9 W _ _ ty (ρ.t 9) i0 b (off+i * k) (n+m - i) dc ⟨vb,voff,none⟩ m vc m vs L.t24 L.info (by simp only[Bx];split<;>omega) hvl'
   (fun j v hj=>by
    rw[Addr.add_lit,hWc,hW1,World.cell?_setCells_out b _ _ _ _ (fun h _=>absurd h hvb)]
    exact hvs j v hj)
   (fun j hj=>by rw[hvl] at hj;rw[hWc,A8];exact hsp1 _ (by omega)) (fun j hj=>by rw[hvl] at hj;rw[hWf,hW1,World.frozen?_setCells,A8];exact hfz _ (by omega)) h1v
 rw[← hW1] at hcp1
 clear hdl hvl' hik hnm him hni hsp1
 obtain⟨_,_,FG⟩:=L.f22
 go_enter FG,Body2.n22_ntmps ρ
 go_wp2_with (simp only[hov])
 go_region_law_o (refine step_copy_runI rfl _ _ (ρ.t 24) (ρ.t 24) rfl _ _ (by simp[Act.eval,Act.put]) (by simp[Act.eval,Act.put]) (hcp1 _ _ _) ?_)
 go_wp2_with (at_builtin;refine wpList_copy_runI _ rfl _ _ (ρ.t 24) (ρ.t 24) rfl _ _ rfl rfl (hcp2 _ (fun _=>rfl) (fun _=>rfl) _ _) ?_)
 go_ret
 first|exact⟨rfl,rfl⟩| exact⟨rfl,by rw[hW1]⟩
set_option maxHeartbeats 4000000 in
set_option maxRecDepth 100000 in
theorem A0u (L:InsL P ρ i0 zr k) (b off n c vb voff m vc:Nat) (vs:List Value) (w:World) (hm:0 < m) (hroom:n+m≤c) (hc63:n+m≤9223372036854775807)
  (hvl:vs.length=m * k) (hsp:∀ j,j < m * k→(w.cell? ⟨b,off+n * k+j,none⟩).isSome=true) (hfz:∀ j,j < m * k→w.frozen? ⟨b,off+n * k+j,none⟩=false)
  (hvs:∀ j v,vs[j]?=some v→w.cell? ⟨vb,voff+j,none⟩=some v) (h1v:∀ v ∈ vs,v.oneCell'=true):
  Calls P (ρ.f 22) #[.slice (some ⟨b,off,none⟩) n c,.int .i64 n,.slice (some ⟨vb,voff,none⟩) m vc] w fun e w'=>
   e=.returned (.slice (some ⟨b,off,none⟩) (n+m) c)∧w'=w.setCells b (off+n * k) vs:=by
 have t0:=L.t0;have a0:=L.a0;have z0:=L.z0;have v0:=L.v0;have t3:=L.t3;have a3:=L.a3;have z3:=L.z3;have v3:=L.v3;have t4:=L.t4;have a4:=L.a4;have z4:=L.z4;have v4:=L.v4;have z9:=L.z9;have t24:=L.t24;have a24:=L.a24;have z24:=L.z24;have v24:=L.v24
 have u0:=run_underlying L.t0;have u3:=run_underlying L.t3;have u4:=run_underlying L.t4;have u24:=run_underlying L.t24
 have mixed:=L.mixed
 have hz1:¬ ((m:Int)=0):=by omega
 have hsrc:Src P i0.size (ρ.t 24) (.slice (some ⟨vb,voff,none⟩) m vc) m vs w:=Src.ofSlice w L.t24 ⟨vb,voff,none⟩ m vc vs (by rw[L.size];exact hvl) (fun j u hj=>by rw[Addr.add_lit];exact hvs j u hj) h1v
 obtain⟨_,_,FG⟩:=L.f22
 go_enter FG,Body2.n22_ntmps ρ
 go_wp2_with (at_builtin;refine wpList_append_room_src _ rfl _ _ (ρ.t 24) (ρ.t 24) rfl (ρ.t 9) i0 L.t24 L.info b off n c rfl _ rfl m vs hsrc hroom (by rw[hvl,L.size];exact hsp) (by rw[hvl,L.size];exact hfz) ?_;rw[L.size])
 go_ret
 exact⟨rfl,rfl⟩
set_option maxHeartbeats 4000000 in
set_option maxRecDepth 100000 in
theorem A0r (L:InsL P ρ i0 zr k) (base:Option Addr) (n c vb voff m vc:Nat) (cs vs:List Value) (w:World) (hm:0 < m) (hnc:n≤c) (hroom:c < n+m) (hbig:n+m≤1099511627776)
  (hcl:cs.length=n * k) (hvl:vs.length=m * k) (hnil:base=none→n=0)
  (hcs:∀ a,base=some a→∀ j v,cs[j]?=some v→w.cell? (a.add j)=some v)
  (hvs:∀ j v,vs[j]?=some v→w.cell? ⟨vb,voff+j,none⟩=some v) (h1v:∀ v ∈ vs,v.oneCell'=true):
  Calls P (ρ.f 22) #[.slice base n c,.int .i64 n,.slice (some ⟨vb,voff,none⟩) m vc] w fun e w'=>
   e=.returned (.slice (some ⟨w.heap.size,0,none⟩) (n+m) (grownCap w (n+m) c (ρ.t 9))) ∧
   w'=w.drew.alloc (.cells ((cs++vs).toArray++Ad zr.cells (grownCap w (n+m) c (ρ.t 9) - (n+m))) (ρ.t 9)):=by
 have t0:=L.t0;have a0:=L.a0;have z0:=L.z0;have v0:=L.v0;have t3:=L.t3;have a3:=L.a3;have z3:=L.z3;have v3:=L.v3;have t4:=L.t4;have a4:=L.a4;have z4:=L.z4;have v4:=L.v4;have z9:=L.z9;have t24:=L.t24;have a24:=L.a24;have z24:=L.z24;have v24:=L.v24
 have u0:=run_underlying L.t0;have u3:=run_underlying L.t3;have u4:=run_underlying L.t4;have u24:=run_underlying L.t24
 have mixed:=L.mixed
 have hz1:¬ ((m:Int)=0):=by omega
 have hsrc:Src P i0.size (ρ.t 24) (.slice (some ⟨vb,voff,none⟩) m vc) m vs w:=Src.ofSlice w L.t24 ⟨vb,voff,none⟩ m vc vs (by rw[L.size];exact hvl) (fun j u hj=>by rw[Addr.add_lit];exact hvs j u hj) h1v
 have hold:(Bf i0.size n (.slice base n c)).run P w.drew=.ok cs.toArray w.drew:=by
  cases base with
  | none=>
   have h0:=hnil rfl
   subst h0
   rw[Nat.zero_mul] at hcl
   rw[AD.1 hcl]
   exact run_firstCells_none w.drew i0.size 0 0 c
  | some a=>exact run_firstCells_some w.drew i0.size n a n c cs (by rw[L.size];exact hcl) (fun j v hj=>hcs a rfl j v hj)
 have hfit:Bz (n+m) c * i0.bytes≤281474976710656:=growslice_fits hroom (by
  have:(n+m) * i0.bytes≤1099511627776 * 128:=B0 hbig L.bytes
  omega)
 have hrun:∀ ty,(AH #[(ρ.t 24),(ρ.t 24)] ty #[.slice base n c,.slice (some ⟨vb,voff,none⟩) m vc]).run P w=_:=fun ty=>
  run_append_grow_src w (ρ.t 24) (ρ.t 24) ty (ρ.t 9) i0 _ L.t24 L.info L.zero base n c cs hold _ m vs hsrc hroom (by omega) hfit
 obtain⟨W1,hW1⟩:∃ W1,W1=w.drew.alloc (.cells ((cs++vs).toArray++Ad zr.cells (grownCap w (n+m) c (ρ.t 9) - (n+m))) (ρ.t 9)):=⟨_,rfl⟩
 rw[← hW1] at hrun ⊢
 clear hW1 hsrc hold hfit
 obtain⟨_,_,FG⟩:=L.f22
 go_enter FG,Body2.n22_ntmps ρ
 cases base with
 | none=>
  have h0:=hnil rfl
  subst h0
  go_wp2_with (at_builtin;refine Lib.wpList_append_run _ rfl _ _ _ _ rfl _ _ rfl rfl _ _ (hrun _) ?_)
  go_ret
  exact⟨rfl,rfl⟩
 | some a=>
  obtain⟨ab,ao,asp⟩:=a
  go_wp2_with (at_builtin;refine Lib.wpList_append_run _ rfl _ _ _ _ rfl _ _ rfl rfl _ _ (hrun _) ?_)
  all_goals (go_ret;exact⟨rfl,rfl⟩)
set_option maxHeartbeats 4000000 in
set_option maxRecDepth 100000 in
theorem A8l (L:InsL P ρ i0 zr k) (b off n c i vb voff m vc:Nat) (cs vs:List Value) (w:World) (hi:i < n) (hm:0 < m) (hnc:n≤c) (hroom:c < n+m) (hbig:n+m≤1099511627776)
  (hcl:cs.length=n * k) (hvl:vs.length=m * k)
  (hcs:∀ j v,cs[j]?=some v→w.cell? ⟨b,off+j,none⟩=some v)
  (hvs:∀ j v,vs[j]?=some v→w.cell? ⟨vb,voff+j,none⟩=some v) (h1c:∀ v ∈ cs,v.oneCell'=true) (h1v:∀ v ∈ vs,v.oneCell'=true):
  Calls P (ρ.f 22) #[.slice (some ⟨b,off,none⟩) n c,.int .i64 i,.slice (some ⟨vb,voff,none⟩) m vc] w fun e w'=>
   e=.returned (.slice (some ⟨w.heap.size,0,none⟩) (n+m) (grownCap w (n+m) c (ρ.t 9))) ∧
   w'=(((w.alloc (.cells ((cs.take (i * k)).toArray++Ad zr.cells (n+m - i)++Ad zr.cells (grownCap w (n+m) c (ρ.t 9) - (n+m))) (ρ.t 9))).drew.setCells w.heap.size (i * k) vs).drew).setCells w.heap.size ((i+m) * k) (cs.drop (i * k)):=by
 have t0:=L.t0;have a0:=L.a0;have z0:=L.z0;have v0:=L.v0;have t3:=L.t3;have a3:=L.a3;have z3:=L.z3;have v3:=L.v3;have t4:=L.t4;have a4:=L.a4;have z4:=L.z4;have v4:=L.v4;have z9:=L.z9;have t24:=L.t24;have a24:=L.a24;have z24:=L.z24;have v24:=L.v24
 have u0:=run_underlying L.t0;have u3:=run_underlying L.t3;have u4:=run_underlying L.t4;have u24:=run_underlying L.t24
 have mixed:=L.mixed
 have hz1:¬ ((m:Int)=0):=by omega
 have hz2:¬ ((i:Int)=(n:Int)):=by omega
 have hz3:(c:Int) < (n:Int)+(m:Int):=by omega
 have hpos:=L.pos
 have hnk:0 < n * k:=Nat.mul_pos (by omega) hpos
 have hmk:0 < m * k:=Nat.mul_pos hm hpos
 have hikn:i * k≤n * k:=Ac k (by omega)
 have hnm:(n+m) * k=n * k+m * k:=An _ _ _
 have him:(i+m) * k=i * k+m * k:=An _ _ _
 have hni:(n - i) * k=n * k - i * k:=Bh _ _ _
 have hvl':vs.length=m * i0.size:=by rw[hvl,L.size]
 have hbw:b < w.heap.size:=block_lt_of_cell (hcs 0 _ (Ah (by omega)))
 have hvw:vb < w.heap.size:=block_lt_of_cell (hvs 0 _ (Ah (by omega)))
 have hkk:(n:Int)+(m:Int) - (i:Int)=((n+m - i:Nat):Int):=by omega
 have hik:i+(n+m - i)=n+m:=by omega
 have hold:(Bf i0.size i (.slice (some ⟨b,off,none⟩) i c)).run P w.drew=.ok (cs.take (i * k)).toArray w.drew:=
  run_firstCells_some w.drew i0.size i ⟨b,off,none⟩ i c (cs.take (i * k)) (by rw[As,L.size];omega) (fun j v hj=>by
   rw[Addr.add_lit]
   rw[A1] at hj
   split at hj
   ·exact hcs j v hj
   ·cases hj)
 have hfit:Bz (n+m) c * i0.bytes≤281474976710656:=growslice_fits hroom (by
  have:(n+m) * i0.bytes≤1099511627776 * 128:=B0 hbig L.bytes
  omega)
 have hfit2:(n+m - i) * i0.bytes≤281474976710656:=by
  have:(n+m - i) * i0.bytes≤1099511627776 * 128:=B0 (by omega) L.bytes
  omega
 have hrz:∀ ty,(AH #[(ρ.t 24),(ρ.t 3)] ty #[.slice (some ⟨b,off,none⟩) i c,.int .i64 ((n:Int)+(m:Int) - (i:Int))]).run P w =
   .ok (.slice (some ⟨w.heap.size,0,none⟩) (n+m) (grownCap w (n+m) c (ρ.t 9))) (w.drew.alloc (.cells ((cs.take (i * k)).toArray++Ad zr.cells (n+m - i)++Ad zr.cells (grownCap w (n+m) c (ρ.t 9) - (n+m))) (ρ.t 9))):=fun ty=>by
  have h:=Lib.run_append_grow_zeros w (ρ.t 24) (ρ.t 3) ty (ρ.t 9) i0 _ .i64 .i64 L.t24 L.t3 L.info L.zero (some ⟨b,off,none⟩) i c (cs.take (i * k)) hold (n+m - i) (by omega) (by rw[L.size];omega) (by omega) (by omega) hfit2 (by rw[hik];exact hfit)
  rw[hik] at h
  rw[hkk]
  exact h
 obtain⟨G,hG⟩:∃ G,G=grownCap w (n+m) c (ρ.t 9):=⟨_,rfl⟩
 obtain⟨ROW,hROW⟩:∃ ROW:Array Value,ROW=(cs.take (i * k)).toArray++Ad zr.cells (n+m - i)++Ad zr.cells (G - (n+m)):=⟨_,rfl⟩
 rw[← hG] at hrz ⊢
 rw[← hROW] at hrz ⊢
 have hRl:(n+m) * k≤ROW.size:=by
  have e1:(n+m - i) * k=(n+m) * k - i * k:=Bh _ _ _
  rw[hROW]
  simp only[A7,Bi,As,Ad,Array.size_map,Array.size_range,L.zs]
  omega
 obtain⟨W1,hW1⟩:∃ W1,W1=w.drew.alloc (.cells ROW (ρ.t 9)):=⟨_,rfl⟩
 rw[← hW1] at hrz
 have hN:∀ j,j < (n+m) * k→(W1.cell? ⟨w.heap.size,j,none⟩).isSome=true:=fun j hj=>by
  rw[hW1,World.cell?_alloc_at (w:=w.drew) ROW _ w.heap.size j rfl,AF (by omega)];rfl
 have hNf:∀ j,W1.frozen? ⟨w.heap.size,j,none⟩=false:=fun j=>by rw[hW1];exact World.frozen?_alloc_at (w:=w.drew) ROW _ w.heap.size j rfl
 have hOb:∀ j v,w.cell? ⟨b,j,none⟩=some v→W1.cell? ⟨b,j,none⟩=some v:=fun j v h=>by rw[hW1,World.cell?_alloc_past (w:=w.drew) _ b j hbw];exact h
 have hOv:∀ j v,w.cell? ⟨vb,j,none⟩=some v→W1.cell? ⟨vb,j,none⟩=some v:=fun j v h=>by rw[hW1,World.cell?_alloc_past (w:=w.drew) _ vb j hvw];exact h
 have hcpA:∀ (W:World),(∀ x,W.cell? x=W1.cell? x)→(∀ x,W.frozen? x=W1.frozen? x)→∀ ty dc,(AG #[(ρ.t 24),(ρ.t 24)] ty #[.slice (some ⟨w.heap.size,i * k,none⟩) (n+m - i) dc,.slice (some ⟨vb,voff,none⟩) m vc]).run P W=.ok (goInt m) (W.setCells w.heap.size (i * k) vs):=fun W hWc hWf ty dc=>
  AW9 W _ _ ty (ρ.t 9) i0 w.heap.size (i * k) (n+m - i) dc ⟨vb,voff,none⟩ m vc m vs L.t24 L.info (by simp only[Bx];split<;>omega) hvl'
   (fun j v hj=>by rw[Addr.add_lit,hWc];exact hOv _ v (hvs j v hj))
   (fun j hj=>by rw[hvl] at hj;rw[hWc];exact hN _ (by omega)) (fun j hj=>by rw[hWf];exact hNf _) h1v
 have hGn:n+m≤G:=by rw[hG];exact grownCap_ge w _ _ _
 have hG63:G≤9223372036854775807:=by
  have:=grownCap_le_maxLen w (n+m) c (ρ.t 9) (by unfold maxLen;omega)
  rw[← hG] at this
  unfold maxLen at this
  omega
 have hGi:¬ (G=i):=by omega
 have hGim:¬ (G=i+m):=by omega
 have hci:¬ (c=i):=by omega
 have hbN:b≠w.heap.size:=by omega
 have hdl:(cs.drop (i * k)).length=(n - i) * i0.size:=by rw[Ay,hcl,L.size,hni]
 have hcpB:∀ (W:World),(∀ x,W.cell? x=(W1.setCells w.heap.size (i * k) vs).cell? x)→(∀ x,W.frozen? x=(W1.setCells w.heap.size (i * k) vs).frozen? x)→∀ ty dc sc,(AG #[(ρ.t 24),(ρ.t 24)] ty #[.slice (some ⟨w.heap.size,(i+m) * k,none⟩) (n+m - (i+m)) dc,.slice (some ⟨b,off+i * k,none⟩) (n - i) sc]).run P W=.ok (goInt ((n - i:Nat):Int)) (W.setCells w.heap.size ((i+m) * k) (cs.drop (i * k))):=fun W hWc hWf ty dc sc=>
  AW9 W _ _ ty (ρ.t 9) i0 w.heap.size ((i+m) * k) (n+m - (i+m)) dc ⟨b,off+i * k,none⟩ (n - i) sc (n - i) (cs.drop (i * k)) L.t24 L.info (by simp only[Bx];split<;>omega) hdl
   (fun j v hj=>by
    rw[Addr.add_lit,hWc,World.cell?_setCells_out _ _ _ _ _ (fun h _=>absurd h hbN),A8]
    exact hOb _ v (hcs (i * k+j) v (by rwa [A2] at hj)))
   (fun j hj=>by rw[hdl,L.size] at hj;rw[hWc];exact isSome_setCells _ _ _ _ (fun t ht=>by rw[hvl] at ht;exact hN _ (by omega)) _ (hN _ (by omega)))
   (fun j hj=>by rw[hWf,World.frozen?_setCells];exact hNf _) (fun v hv=>h1c v (By hv))
 subst hW1
 have hE1:∀ x,((w.alloc (.cells ROW (ρ.t 9))).drew).cell? x=(w.drew.alloc (.cells ROW (ρ.t 9))).cell? x:=fun x=>rfl
 have hE2:∀ x,((w.alloc (.cells ROW (ρ.t 9))).drew).frozen? x=(w.drew.alloc (.cells ROW (ρ.t 9))).frozen? x:=fun x=>rfl
 have hF1:∀ x,(((w.alloc (.cells ROW (ρ.t 9))).drew.setCells w.heap.size (i * k) vs).drew).cell? x=((w.drew.alloc (.cells ROW (ρ.t 9))).setCells w.heap.size (i * k) vs).cell? x:=fun x=>rfl
 have hF2:∀ x,(((w.alloc (.cells ROW (ρ.t 9))).drew.setCells w.heap.size (i * k) vs).drew).frozen? x=((w.drew.alloc (.cells ROW (ρ.t 9))).setCells w.heap.size (i * k) vs).frozen? x:=fun x=>rfl
 have hw1:IntKind.i64.wrap ((i:Int)+(m:Int))=(i:Int)+(m:Int):=by rw[IntKind.wrap_i64];omega
 have hb1:(0:Int)≤(i:Int)+(m:Int):=by omega
 have hin:i≤n:=by omega
 have htn:((i:Int)+(m:Int)).toNat=i+m:=by omega
 have hb3:(i:Int)≤(n:Int):=by omega
 clear hkk hik hold hROW hG hRl hnk hmk hikn hnm him hni hvl' hdl hfit hfit2 hN hNf hOb hOv
 obtain⟨_,_,FG⟩:=L.f22
 go_enter FG,Body2.n22_ntmps ρ
 go_wp2_with (first
  | (at_builtin;refine Lib.wpList_append_run _ rfl _ _ _ _ rfl _ _ rfl rfl _ _ (hrz _) ?_)
  | (at_builtin;refine wpList_copy_runI _ rfl _ _ (ρ.t 24) (ρ.t 24) rfl _ _ rfl rfl (hcpA _ hE1 hE2 _ _) ?_)
  | (at_builtin;refine wpList_copy_runI _ rfl _ _ (ρ.t 24) (ρ.t 24) rfl _ _ rfl rfl (hcpB _ (fun _=>rfl) (fun _=>rfl) _ _ _) ?_))
 go_region_law_o (refine step_copy_runI rfl _ _ (ρ.t 24) (ρ.t 24) rfl (.slice (some ⟨w.heap.size,(i+m) * k,none⟩) (n+m - (i+m)) (G - (i+m))) (.slice (some ⟨b,off+i * k,none⟩) (n - i) (c - i)) (by simp[Act.eval,Act.put]) (by simp[Act.eval,Act.put]) (hcpB _ hF1 hF2 (ρ.t 3) (G - (i+m)) (c - i)) ?_)
 go_wp2
 go_ret
 exact⟨rfl,rfl⟩
end
end Go.Rf

end
section
namespace Go.Rf
set_option linter.unusedSectionVars false
variable [T:Laid]
open Go.Shelf Go.RowKit Go.Lib Go.Proofs
section
variable {P:Program} {S S':Nat→Prop} {β:Key→Option Nat} {H:Nat→Option (List Value)} {w w':World} {τ:Ty}
theorem Elems.flat (hf:A3l τ=true) {ys:List τ.D} {cy:List Value} (h:Elems S w τ ys cy):Elems S' w' τ ys cy:=⟨h.len,h.one,fun j v hv=>AI8 hf (h.get j v hv)⟩
theorem Elems.take {ys:List τ.D} {cy:List Value} (h:Elems S w τ ys cy) {i:Nat} (hi:i≤ys.length):Elems S w τ (ys.take i) (cy.take (i * τ.size)):=by
 have hle:i * τ.size≤ys.length * τ.size:=Ac _ hi
 refine .of (by rw[As,As,h.len,Bq hle,Bq hi]) fun j v hv=>?_
 unfold nth at hv
 rw[A1] at hv
 split at hv
 ·rename_i hj
  have hlt:(j+1) * τ.size≤i * τ.size:=Ac _ hj
  rw[An,AS] at hlt
  have e:win (cy.take (i * τ.size)) (j * τ.size) τ.size=win cy (j * τ.size) τ.size:=by
   apply Az
   intro t
   rw[tK,tK]
   split
   ·rw[A1,Aq (by omega)]
   ·rfl
  rw[e];exact h.get j v hv
 ·cases hv
theorem Elems.drop {ys:List τ.D} {cy:List Value} (h:Elems S w τ ys cy) (i:Nat):Elems S w τ (ys.drop i) (cy.drop (i * τ.size)):=by
 refine .of (by rw[Ay,Ay,h.len,Bh]) fun j v hv=>?_
 unfold nth at hv
 rw[A2] at hv
 have:=h.get (i+j) v hv
 have e:win (cy.drop (i * τ.size)) (j * τ.size) τ.size=win cy ((i+j) * τ.size) τ.size:=by
  apply Az
  intro t
  rw[tK,tK,A2,An,A8]
 rw[e];exact this
theorem Elems.append {xs ys:List τ.D} {cx cy:List Value} (hx:Elems S w τ xs cx) (hy:Elems S w τ ys cy):Elems S w τ (xs++ys:List τ.D) (cx++cy):=by
 refine .of (by rw[Aa,Aa,hx.len,hy.len,An]) fun j v hv=>?_
 rcases AG7 hv with ⟨h1,h2⟩| ⟨h1,h2⟩
 ·have hlt:(j+1) * τ.size≤xs.length * τ.size:=Ac _ h1
  rw[An,AS] at hlt
  have e:win (cx++cy) (j * τ.size) τ.size=win cx (j * τ.size) τ.size:=by
   apply Az
   intro t
   rw[tK,tK]
   split
   ·rw[Ae (by rw[hx.len];omega)]
   ·rfl
  rw[e];exact hx.get j v h2
 ·have hle:xs.length * τ.size≤j * τ.size:=Ac _ h1
  have e:win (cx++cy) (j * τ.size) τ.size=win cy ((j - xs.length) * τ.size) τ.size:=by
   apply Az
   intro t
   rw[tK,tK,Ap (by rw[hx.len];omega),hx.len,Bh]
   split
   ·congr 1;omega
   ·rfl
  rw[e];exact hy.get _ v h2
theorem A5I {c d:List Value} {o n:Nat} (hd:d.length=n) (h:∀ t,t < n→c[o+t]?=d[t]?):win c o n=d:=by
 apply Az
 intro t
 rw[tK]
 split
 ·exact h t (by assumption)
 ·rw[Bt (by omega)]
theorem BC5 {key:Key} {xs:List τ.D} {c:List Value} (h:zX S β H w key (.sl τ) (.own .sh) xs c):
  ∃ ad cap,c=[.slice ad xs.length cap]∧xs.length≤cap∧(cap=0∨∃ b o cs,ad=some ⟨b,o,none⟩∧β key=some b∧AN4 (B0l τ) w b cs∧o+cap * τ.size≤cs.size∧Elems S w τ xs (win cs.toList o (xs.length * τ.size))):=by
 simp only[zX,Fl.base] at h
 obtain⟨_,ad,cap,rfl,hl,h⟩:=h
 refine⟨ad,cap,rfl,hl,h.imp id ?_⟩
 rintro⟨b,o,cs,rfl,hk,hB,hz,hel⟩
 have hle:xs.length * τ.size≤cap * τ.size:=Ac _ hl
 refine⟨b,o,cs,rfl,hk,hB,hz,.of (lN (by rw[Al];exact Bm (Nat.add_le_add_left hle o) hz)) fun j v hv=>?_⟩
 have hj:j < Ao xs:=by unfold nth at hv;exact (Ag.1 hv).1
 have hlt:(j+1) * τ.size≤Ao xs * τ.size:=Ac _ hj
 rw[An,AS] at hlt
 rw[nG (by omega)]
 have:=hel j v hv
 rw[xD] at this
 exact this
theorem BP5 {key:Key} {xs:List τ.D} {cx:List Value} {b o cap:Nat} {cs:Array Value} (hl:xs.length≤cap) (hk:β key=some b) (hB:AN4 (B0l τ) w b cs) (hz:o+cap * τ.size≤cs.size) (hx:Elems S w τ xs cx) (hw:win cs.toList o (xs.length * τ.size)=cx):
  zX S β H w key (.sl τ) (.own .sh) xs [.slice (some ⟨b,o,none⟩) xs.length cap]:=by
 simp only[zX,Fl.base]
 refine⟨by simp[lV,Fl.pins],some ⟨b,o,none⟩,cap,rfl,hl,.inr ⟨b,o,cs,rfl,hk,hB,hz,fun j v hv=>?_⟩⟩
 have hj:j < Ao xs:=by unfold nth at hv;exact (Ag.1 hv).1
 have hlt:(j+1) * τ.size≤Ao xs * τ.size:=Ac _ hj
 rw[An,AS] at hlt
 rw[xD,← nG (o:=o) (n:=xs.length * τ.size) (by omega),hw]
 exact hx.get j v hv
theorem AX1 {q:Bool} {b o:Nat} {cs:Array Value} (hB:AN4 q w b cs) (ho:o < cs.size):w.frozen? ⟨b,o,none⟩=false:=by
 obtain⟨e,fz,hb,hf,_⟩:=hB
 have:=hf o ho
 simp only[B4,hb]
 simp only[Bool.and_eq_false_iff,decide_eq_false_iff_not]
 by_cases h:fz.1≤o
 ·right;intro h2;exact this ⟨h,h2⟩
 ·left;exact h
end
section
variable {E:Env} {ρ:Ren} {i0:TypeInfo} {zr:Value} {τ:Ty}
end
theorem Az5 {P:Program} (w:World) (tS tR e:TypeId) (ht:P.underlying tS=some (.slice e)) (size:Nat) (hz:∀ w,(Bk e).run P w=.ok size w)
  (a b:Addr) (la ca lb cb:Nat) (hne:a.block≠b.block) {csv:Array Value} (ha:Blk w a.block csv) (h0:csv.size≠0) {csb:Array Value} (hb:AN4 false w b.block csb):
  (AP #[tS,tS] #[tR] #[.slice (some a) la ca,.slice (some b) lb cb]).run P w=.ok (.bool false) w:=by
 obtain⟨ea,fa,ha⟩:=ha
 obtain⟨eb,fb,hb,_,hq⟩:=hb
 have hq:fb=(0,0):=by simpa using hq
 subst hq
 have hnb:(a.block != b.block)=true:=by simpa using hne
 have hnb':(a.block == b.block)=false:=by simpa using hne
 have hsa:w.shape? a.block=some (ea,csv.size):=by simp only[BR,ha]
 have hsb:w.shape? b.block=some (eb,csb.size):=by simp only[BR,hb]
 have hfb:w.frozen? b=false:=by simp only[B4,hb];simp
 have hfe:w.frozen? { block:=b.block,off:=csb.size }=false:=by simp only[B4,hb];simp
 change Sem.run P (α:=Value) (do
  let some t:=(#[tS,tS]:Array TypeId)[0]?|stuck "slices.overlaps: no parameter types"
  let .slice elem ← underlying t|stuck "slices.overlaps: slice type expected"
  let size ← sizeOf elem
  match (some a:Option Addr),(some b:Option Addr) with
  | some a,some b=>
   if la=0∨lb=0∨size=0 then pure (Value.bool false)
   else if a.block != b.block&&(← frozen a)&&(← frozen b) then unsupported .addressObserved
   else do
    if a.block != b.block then do
     noView a;noView b
     if ← mayBeOne a b then return Value.bool ((← choose (.extern "sameAddr.stringBytes" 2)) == 1)
    pure (Value.bool (a.block == b.block&&a.off < b.off+lb * size&&b.off < a.off+la * size))
  | _,_=>pure (Value.bool false)) w=_
 by_cases hz0:la=0∨lb=0∨size=0
 ·simp[run_underlying ht,hz,hz0]
 ·obtain⟨n,hn⟩:∃ n,csv.size=n+1:=⟨csv.size - 1,by omega⟩
  rw[hn] at hsa
  cases hfa:w.frozen? a<;>cases hfae:w.frozen? { block:=a.block,off:=n+1 } <;>
   simp[run_underlying ht,hz,hz0,hnb,hnb',frozen,noView,viewAt,mayBeOne,stringish,shape,Sem.run,hsa,hsb,hfa,hfae,hfb,hfe]
section
variable {E:Env} {ρ:Ren} {i0:TypeInfo} {zr:Value} {τ:Ty} {w w':World} {S:Nat→Prop} {β:Key→Option Nat} {keep:List Nat} {mv:List (Nat × Nat)} {ms:List Mode} {ax:List (List Value)}
theorem BT3 (hs:Sane w S β) {b o cap:Nat} {cs cs':Array Value} {eb:TypeId} {fz:Nat × Nat} (hk:β [0]=some b) (hB:w.heap[b]?=some (.cells cs eb fz)) (hO:AN4 (B0l τ) w b cs)
  (h':w'.heap[b]?=some (.cells cs' eb fz)) (hcs:cs'.size=cs.size) (hoth:∀ b',b'≠b→w'.heap[b']?=w.heap[b']?) (hsize:w'.heap.size=w.heap.size) (hout:SameOut w w')
  {xs:List τ.D} {cx:List Value} (hl:xs.length≤cap) (hz:o+cap * τ.size≤cs.size) (hx:Elems S w' τ xs cx) (hw:win cs'.toList o (xs.length * τ.size)=cx) (hio:AP9 S β w' ms ax 0 .unit ()):
  Ret ⟨ms,1,.pair (.sl τ) .unit,.pr (.own .sh) .sh,keep,mv⟩ (xs,()) ax w S β (.slice (some ⟨b,o,none⟩) xs.length cap) w':=by
 obtain⟨e',fz',hB',hfz,hq⟩:=hO
 rw[hB] at hB';cases hB'
 refine⟨S,β,[[.slice (some ⟨b,o,none⟩) xs.length cap]],⟨hs.inj,hs.sep,fun k b hb=>by rw[hsize];exact hs.live k b hb,fun b hb=>by rw[hsize];exact hs.liveS b hb,hs.tabs fun b' hb'=>⟨hb',hoth b' (fun e=>hs.sep _ _ hk (e▸hb'))⟩⟩,
  ⟨BC hsize.symm,fun b' hb' hk'=>hoth b' (fun e=>hk' [0] (by rw[e];exact hk)),fun k b hb=>.inl ⟨k,hb⟩,fun _ h=>h,fun _ h=>.inl h,hout⟩,?_,rfl,hio⟩
 simp only[mQ]
 exact⟨BP5 hl hk ⟨eb,fz,h',by rw[hcs];exact hfz,hq⟩ (by rw[hcs];exact hz) hx hw,trivial⟩
theorem A7F (hs:Sane w S β) {cap:Nat} {cs':Array Value} {eb:TypeId}
  (h':w'.heap[w.heap.size]?=some (.cells cs' eb (0,0))) (hoth:∀ b',b' < w.heap.size→w'.heap[b']?=w.heap[b']?) (hsize:w'.heap.size=w.heap.size+1) (hout:SameOut w w')
  {xs:List τ.D} {cx:List Value} (hl:xs.length≤cap) (hz:cap * τ.size≤cs'.size) (hx:Elems S w' τ xs cx) (hw:win cs'.toList 0 (xs.length * τ.size)=cx) (hio:∀ β',AP9 S β' w' ms ax 0 .unit ()):
  Ret ⟨ms,1,.pair (.sl τ) .unit,.pr (.own .sh) .sh,keep,mv⟩ (xs,()) ax w S β (.slice (some ⟨w.heap.size,0,none⟩) xs.length cap) w':=by
 refine⟨S,fun k=>if k=[0] then some w.heap.size else none,[[.slice (some ⟨w.heap.size,0,none⟩) xs.length cap]],⟨?_,?_,?_,fun b hb=>by rw[hsize];exact Nat.lt_succ_of_lt (hs.liveS b hb),hs.tabs fun b' hb'=>⟨hb',hoth b' (hs.liveS b' hb')⟩⟩,
  ⟨by omega,fun b' hb' _=>hoth b' hb',?_,fun _ h=>h,fun _ h=>.inl h,hout⟩,?_,rfl,hio _⟩
 ·intro k k' b h1 h2
  split at h1<;>split at h2<;>simp_all
 ·intro k b h1 h2
  split at h1<;>simp at h1
  have:=hs.liveS b h2
  omega
 ·intro k b h1
  split at h1<;>simp at h1
  omega
 ·intro k b h1
  split at h1<;>simp at h1
  exact .inr (by omega)
 ·simp only[mQ]
  exact⟨BP5 hl (by simp) ⟨eb,(0,0),h',fun _ _=>by simp,.inr rfl⟩ (by omega) hx hw,trivial⟩
end
theorem Ar1 {w:World} {b o:Nat} {cs:Array Value} (hB:Blk w b cs) (h:o < cs.size):(w.cell? ⟨b,o,none⟩).isSome=true:=by
 rw[AY8 hB (v:=cs[o]) (by rw[A4,AF h])];rfl
theorem A1y {zr:Value} {k n:Nat} (h:zr.cells.size=k):(Ad zr.cells n).size=n * k:=by simp[Ad,h]
theorem B0K (w:World) (o:Obj):(w.alloc o).heap[w.heap.size]?=some o:=by
 show (w.heap.push o)[w.heap.size]?=some o
 simp
theorem Bc2 {w:World} {b:Nat} (h:b < w.heap.size) (o:Obj):(w.alloc o).heap[b]?=w.heap[b]?:=by
 show (w.heap.push o)[b]?=w.heap[b]?
 rw[AX,A5 (Nat.ne_of_lt h)]
theorem A76 (w:World) (o:Obj):(w.alloc o).heap.size=w.heap.size+1:=by
 show (w.heap.push o).size=_
 simp
theorem BC0 {w w':World} (h:SameOut w.drew w'):SameOut w w':=(show SameOut w w.drew from ⟨rfl,rfl,rfl⟩).trans h
section
variable {E:Env} {ρ:Ren} {i0:TypeInfo} {zr:Value} {τ:Ty}
def OvL (P:Program) (ρ:Ren):Prop:=∃ fn,P.funcs[ρ.f 29]?=some fn∧(fn.name == "runtime.NumGoroutine")=false∧fn.body.isNone=true∧Extern.findNext fn=none∧Extern.find fn=some (AP #[ρ.t 24,ρ.t 24] #[ρ.t 4])
def B42 (τ:Ty):List Dyn→Option (Ty.pair (.sl τ) .unit).D
 | [a,b,c]=>(B3O τ a).bind fun xs=>(Bo2 b).bind fun i=>(B3O τ c).bind fun vs=>cond (decide (0≤i)&&(decide (i≤(xs.length:Int))&&(BP 0 vs.length&&BQ (xs.length+vs.length) 1099511627776))) (some ((xs.take i.toNat++vs++xs.drop i.toNat:List τ.D),())) none
 | _=>none
theorem Bg4 {f:FuncId} {fn:Func} (L:InsL E.P ρ i0 zr τ.size) (hO:OvL E.P ρ) (hf:ρ.f 22=f) (hfn:E.P.funcs[f]?=some fn) (hnm:(fn.name == "runtime.NumGoroutine")=false) (hbd:fn.body.isNone=false) (hfl:A3l τ=true) (hu:B0l τ=false)
  {keep:List Nat} {mv:List (Nat × Nat)} (xs vs:List τ.D) (i:Nat) (hi:i≤xs.length) (hm:0 < vs.length) (hbig:xs.length+vs.length≤1099511627776):
  Az7 E ⟨[.mv (.sl τ) (.own .sh),.ro (.int .i64),.ro (.sl τ)],1,.pair (.sl τ) .unit,.pr (.own .sh) .sh,keep,mv⟩ f [⟨.sl τ,xs⟩,⟨.int .i64,(i:Int)⟩,⟨.sl τ,vs⟩] ((xs.take i++vs++xs.drop i:List τ.D),()):=by
 intro w S β cs hs ha
 match cs,ha with
 | [c1,c2,c3],ha=>
  simp only[tM] at ha
  obtain⟨_,_,hv,_,h2,_,h3,_⟩:=ha
  simp only[Rd] at h2 h3
  subst h2
  obtain⟨ad,cap,rfl,hl,hb⟩:=BC5 hv
  obtain⟨av,vc,rfl,hlv,hbv⟩:=h3
  rcases hbv with hbv|⟨vb,vo,csv,rfl,hSv,hBv,hzv,helv⟩
  ·rw[hbv] at hm;exact absurd hm (Nat.lt_irrefl 0)
  refine .inl ⟨fn,hfn,hnm,hbd,?_⟩
  have hpos:=L.pos
  have hle:xs.length * τ.size≤cap * τ.size:=Ac _ hl
  have hmk:τ.size≤vs.length * τ.size:=Nat.le_mul_of_pos_left _ hm
  have hik:i * τ.size≤xs.length * τ.size:=Ac _ hi
  have hnm:(xs.length+vs.length) * τ.size=xs.length * τ.size+vs.length * τ.size:=An _ _ _
  have him:(i+vs.length) * τ.size=i * τ.size+vs.length * τ.size:=An _ _ _
  obtain⟨VS,hVS⟩:∃ VS,VS=win csv.toList vo (vs.length * τ.size):=⟨_,rfl⟩
  have hev:Elems S w τ vs VS:=by
   rw[hVS]
   refine .of (lN (by rw[Al];exact hzv)) fun j v hv=>?_
   have hj:j < Ao vs:=by unfold nth at hv;exact (Ag.1 hv).1
   have hlt:(j+1) * τ.size≤Ao vs * τ.size:=Ac _ hj
   rw[An,AS] at hlt
   rw[nG (by omega)]
   exact helv j v hv
  have hvs:∀ j v,VS[j]?=some v→w.cell? ⟨vb,vo+j,none⟩=some v:=fun j v hj=>AY8 hBv (by
   rw[hVS,tK] at hj
   split at hj
   ·exact hj
   ·cases hj)
  have hown:∃ CX,Elems S w τ xs CX∧(∀ a,ad=some a→∀ j v,CX[j]?=some v→w.cell? (a.add j)=some v)∧(ad=none→xs.length=0):=by
   rcases hb with hb|⟨b,o,cs,rfl,hk,hB,hz,hel⟩
   ·have h0:xs=[]:=AD.1 (by omega)
    subst h0
    exact⟨[],.of (by simp) fun j v hv=>by simp[nth] at hv,fun _ _ j v hj=>by simp at hj,fun _=>rfl⟩
   ·refine⟨_,hel,fun a ha j v hj=>?_,fun h=>by cases h⟩
    cases ha
    rw[Addr.add_lit]
    refine AY8 hB.blk ?_
    rw[tK] at hj
    split at hj
    ·exact hj
    ·cases hj
  have hx':(xs.take i++vs++xs.drop i).length=xs.length+vs.length:=by simp only[Aa,As,Ay];omega
  by_cases hroom:xs.length+vs.length≤cap
  ·rcases hb with hb|⟨b,o,cs,rfl,hk,hB,hz,hel⟩
   ·omega
   clear hown
   have hrk:(xs.length+vs.length) * τ.size≤cap * τ.size:=Ac _ hroom
   obtain⟨CX,hCX⟩:∃ CX,CX=win cs.toList o (xs.length * τ.size):=⟨_,rfl⟩
   rw[← hCX] at hel
   have hget:∀ t,t < xs.length * τ.size→cs.toList[o+t]?=CX[t]?:=fun t ht=>by rw[hCX,tK,Aq ht]
   have hcx:∀ j v,CX[j]?=some v→w.cell? ⟨b,o+j,none⟩=some v:=fun j v hj=>AY8 hB.blk (by
    have ht:j < xs.length * τ.size:=by rw[← hel.len];exact (Ag.1 hj).1
    rw[hget j ht];exact hj)
   have hbv:vb≠b:=fun e=>hs.sep [0] b hk (e▸hSv)
   by_cases hin:i=xs.length
   ·subst hin
    have hcall:=A0u L b o xs.length cap vb vo vs.length vc VS w hm hroom (by omega) hev.len
     (fun j hj=>Ar1 hB.blk (by omega)) (fun j hj=>AX1 hB (by omega)) hvs hev.one
    rw[hf] at hcall
    refine hcall.mono ?_
    rintro e w' ⟨rfl,rfl⟩
    have hO':=hB
    obtain⟨eb,fz,hbl,_,_⟩:=hB
    obtain⟨cs1,k1,k2,k3,k4,k5⟩:=kC (vs:=VS) (o:=o+xs.length * τ.size) (b:=b) hbl (by rw[hev.len];omega)
    have htl:cs.toList.length=cs.size:=Al
    have hs1:cs1.size=cs.size:=by
     have:=Aj Ao k2
     rw[oG (by rw[hev.len,htl];omega)] at this
     simpa using this
    have hxs:xs.take xs.length++vs++xs.drop xs.length=xs++vs:=by simp
    have hr:=BT3 (τ:=τ) (keep:=keep) (mv:=mv) (ms:=[.mv (.sl τ) (.own .sh),.ro (.int .i64),.ro (.sl τ)]) (ax:=[[Value.slice (some ⟨b,o,none⟩) xs.length cap],[.int .i64 (xs.length:Int)],[Value.slice (some ⟨vb,vo,none⟩) vs.length vc]]) (xs:=(xs++vs:List τ.D)) (cap:=cap) hs hk hbl hO' k1 hs1 k3 k4 k5 (by rw[Aa];exact hroom) hz ((hel.append hev).flat hfl)
     (by
      rw[Aa,hnm]
      refine A5I (by rw[Aa,hel.len,hev.len]) fun t ht=>?_
      rw[k2,qI (by rw[hev.len,htl];omega)]
      by_cases h1:t < xs.length * τ.size
      ·rw[Aq (by omega),Ae (by rw[hel.len];omega)]
       exact hget t h1
      ·rw[A5 (by omega),Aq (by rw[hev.len];omega),Ap (by rw[hel.len];omega),hel.len]
       congr 1;omega)
     (by simp[AP9])
    rw[hxs]
    rw[Aa] at hr
    exact hr
   ·have hin':i < xs.length:=by omega
    have hcall:=A56 L b o xs.length cap i vb vo vs.length vc CX VS w hin' hm hroom (by omega) hbv hel.len hev.len hcx
     (fun j hj=>Ar1 hB.blk (by omega)) (fun j hj=>AX1 hB (by omega)) hvs hel.one hev.one
     (fun lb cb=>by
      obtain⟨g,g1,g2,g3,g4,g5⟩:=hO
      rw[run_callFunc_extern g1 g2 g3 g4 g5,Az5 w (ρ.t 24) (ρ.t 4) (ρ.t 9) L.t24 τ.size L.z9 ⟨vb,vo,none⟩ ⟨b,o+(i+vs.length) * τ.size,none⟩ vs.length vc lb cb hbv hBv (by omega) (csb:=cs) (hu▸hB)]
      rfl)
    rw[hf] at hcall
    refine hcall.mono ?_
    rintro e w' ⟨rfl,rfl⟩
    have hO':=hB
    obtain⟨eb,fz,hbl,_,_⟩:=hB
    have hdl:(CX.drop (i * τ.size)).length=xs.length * τ.size - i * τ.size:=by rw[Ay,hel.len]
    obtain⟨cs1,k1,k2,k3,k4,k5⟩:=kC (vs:=CX.drop (i * τ.size)) (o:=o+(i+vs.length) * τ.size) (w:=w.drew) (b:=b) (cs:=cs) hbl (by rw[hdl];omega)
    have htl:cs.toList.length=cs.size:=Al
    have htl1:cs1.toList.length=cs1.size:=Al
    have hs1:cs1.size=cs.size:=by
     have:=Aj Ao k2
     rw[oG (by rw[hdl,htl];omega)] at this
     simpa using this
    obtain⟨cs2,q1,q2,q3,q4,q5⟩:=kC (vs:=VS) (o:=o+i * τ.size) (b:=b) k1 (by rw[hev.len,hs1];omega)
    have hs2:cs2.size=cs.size:=by
     have:=Aj Ao q2
     rw[oG (by rw[hev.len,htl1];omega)] at this
     rw[← hs1];simpa using this
    have hr:=BT3 (τ:=τ) (keep:=keep) (mv:=mv) (ms:=[.mv (.sl τ) (.own .sh),.ro (.int .i64),.ro (.sl τ)]) (ax:=[[Value.slice (some ⟨b,o,none⟩) xs.length cap],[.int .i64 (i:Int)],[Value.slice (some ⟨vb,vo,none⟩) vs.length vc]]) (xs:=(xs.take i++vs++xs.drop i:List τ.D)) (cap:=cap) hs hk hbl hO' q1 hs2 (fun b' hb'=>(q3 b' hb').trans (k3 b' hb')) (q4.trans k4) (BC0 (k5.trans q5)) (by rw[hx'];exact hroom) hz ((((hel.take hi).append hev).append (hel.drop i)).flat hfl)
     (by
      rw[hx',hnm]
      have htk:(CX.take (i * τ.size)).length=i * τ.size:=by rw[As,hel.len];omega
      refine A5I (by rw[Aa,Aa,htk,hdl,hev.len];omega) fun t ht=>?_
      rw[q2,qI (by rw[hev.len,htl1];omega),k2,qI (by rw[hdl,htl];omega)]
      by_cases h1:t < i * τ.size
      ·rw[Aq (by omega),Aq (by omega),Ae (by rw[Aa,htk,hev.len];omega),Ae (by rw[htk];omega),A1,Aq h1]
       exact hget t (by omega)
      ·by_cases h2:t < i * τ.size+vs.length * τ.size
       ·rw[A5 (by omega),Aq (by rw[hev.len];omega),Ae (by rw[Aa,htk,hev.len];omega),Ap (by rw[htk];omega),htk]
        congr 1;omega
       ·rw[A5 (by omega),A5 (by rw[hev.len];omega),A5 (by omega),Aq (by rw[hdl];omega),Ap (by rw[Aa,htk,hev.len];omega),Aa,htk,hev.len]
        congr 1;omega)
     (by simp[AP9])
    rw[hx'] at hr
    exact hr
  ·obtain⟨CX,hel,hcx,hnil⟩:=hown
   obtain⟨G,hG⟩:∃ G,G=grownCap w (xs.length+vs.length) cap (ρ.t 9):=⟨_,rfl⟩
   have hGn:xs.length+vs.length≤G:=by rw[hG];exact grownCap_ge w _ _ _
   have hGk:(G - (xs.length+vs.length)) * τ.size+(xs.length+vs.length) * τ.size=G * τ.size:=by rw[← An];congr 1;omega
   by_cases hin:i=xs.length
   ·subst hin
    have hcall:=A0r L ad xs.length cap vb vo vs.length vc CX VS w hm hl (by omega) hbig hel.len hev.len hnil hcx hvs hev.one
    rw[hf,← hG] at hcall
    refine hcall.mono ?_
    rintro e w' ⟨rfl,rfl⟩
    have hxs:xs.take xs.length++vs++xs.drop xs.length=xs++vs:=by simp
    have hr:=A7F (τ:=τ) (keep:=keep) (mv:=mv) (ms:=[.mv (.sl τ) (.own .sh),.ro (.int .i64),.ro (.sl τ)]) (ax:=[[Value.slice ad xs.length cap],[.int .i64 (xs.length:Int)],[Value.slice (some ⟨vb,vo,none⟩) vs.length vc]]) (xs:=(xs++vs:List τ.D)) (cap:=G) (w':=w.drew.alloc (.cells ((CX++VS).toArray++Ad zr.cells (G - (xs.length+vs.length))) (ρ.t 9))) (eb:=ρ.t 9) (cs':=(CX++VS).toArray++Ad zr.cells (G - (xs.length+vs.length))) hs
     (B0K w.drew _) (fun b' hb'=>Bc2 (w:=w.drew) hb' _) (A76 w.drew _) ⟨rfl,rfl,rfl⟩
     (by rw[Aa];exact hGn) (by rw[A7,A1y L.zs];simp only[Bi,Aa,hel.len,hev.len];omega) ((hel.append hev).flat hfl)
     (by
      rw[Aa,hnm,Array.toList_append]
      refine A5I (by rw[Aa,hel.len,hev.len]) fun t ht=>?_
      rw[Nat.zero_add,Ae (by rw[Aa,hel.len,hev.len];exact ht)])
     (fun β'=>by simp[AP9])
    rw[hxs]
    rw[Aa] at hr
    exact hr
   ·have hin':i < xs.length:=by omega
    rcases hb with hb|⟨b,o,cs,rfl,hk,hB,hz,_⟩
    ·omega
    have hcall:=A8l L b o xs.length cap i vb vo vs.length vc CX VS w hin' hm hl (by omega) hbig hel.len hev.len (fun j v hj=>by have:=hcx _ rfl j v hj;rwa [Addr.add_lit] at this) hvs hel.one hev.one
    rw[hf,← hG] at hcall
    refine hcall.mono ?_
    rintro e w' ⟨rfl,rfl⟩
    have htk:(CX.take (i * τ.size)).length=i * τ.size:=by rw[As,hel.len];omega
    have hdl:(CX.drop (i * τ.size)).length=xs.length * τ.size - i * τ.size:=by rw[Ay,hel.len]
    have hnik:(xs.length+vs.length - i) * τ.size+i * τ.size=(xs.length+vs.length) * τ.size:=by rw[← An];congr 1;omega
    obtain⟨ROW,hROW⟩:∃ ROW,ROW=(CX.take (i * τ.size)).toArray++Ad zr.cells (xs.length+vs.length - i)++Ad zr.cells (G - (xs.length+vs.length)):=⟨_,rfl⟩
    have hRs:ROW.size=G * τ.size:=by rw[hROW,A7,A7,A1y L.zs,A1y L.zs];simp only[Bi,htk];omega
    have hRt:ROW.toList=CX.take (i * τ.size)++((Ad zr.cells (xs.length+vs.length - i)).toList++(Ad zr.cells (G - (xs.length+vs.length))).toList):=by rw[hROW];simp
    rw[← hROW]
    have hbl:(w.alloc (.cells ROW (ρ.t 9))).drew.heap[w.heap.size]?=some (.cells ROW (ρ.t 9) (0,0)):=B0K w _
    obtain⟨cs1,k1,k2,k3,k4,k5⟩:=kC (vs:=VS) (o:=i * τ.size) (b:=w.heap.size) hbl (by rw[hev.len];omega)
    have htl:ROW.toList.length=ROW.size:=Al
    have htl1:cs1.toList.length=cs1.size:=Al
    have hs1:cs1.size=ROW.size:=by
     have:=Aj Ao k2
     rw[oG (by rw[hev.len,htl];omega)] at this
     simpa using this
    obtain⟨cs2,q1,q2,q3,q4,q5⟩:=kC (vs:=CX.drop (i * τ.size)) (o:=(i+vs.length) * τ.size) (b:=w.heap.size) (w:=((w.alloc (.cells ROW (ρ.t 9))).drew.setCells w.heap.size (i * τ.size) VS).drew) (cs:=cs1) k1 (by rw[hdl];omega)
    have hs2:cs2.size=ROW.size:=by
     have:=Aj Ao q2
     rw[oG (by rw[hdl,htl1];omega)] at this
     rw[← hs1];simpa using this
    have hr:=A7F (τ:=τ) (keep:=keep) (mv:=mv) (ms:=[.mv (.sl τ) (.own .sh),.ro (.int .i64),.ro (.sl τ)]) (ax:=[[Value.slice (some ⟨b,o,none⟩) xs.length cap],[.int .i64 (i:Int)],[Value.slice (some ⟨vb,vo,none⟩) vs.length vc]]) (xs:=(xs.take i++vs++xs.drop i:List τ.D)) (cap:=G) (eb:=ρ.t 9) hs q1
     (fun b' hb'=>(q3 b' (by omega)).trans ((k3 b' (by omega)).trans (Bc2 hb' _))) (q4.trans (k4.trans (A76 w _))) (SameOut.trans (show SameOut w (w.alloc (.cells ROW (ρ.t 9))).drew from ⟨rfl,rfl,rfl⟩) (k5.trans (BC0 q5)))
     (by rw[hx'];exact hGn) (by rw[hs2,hRs];exact AK _) ((((hel.take hi).append hev).append (hel.drop i)).flat hfl)
     (by
      rw[hx',hnm]
      refine A5I (by rw[Aa,Aa,htk,hdl,hev.len];omega) fun t ht=>?_
      rw[q2,qI (by rw[hdl,htl1];omega),k2,qI (by rw[hev.len,htl];omega),Nat.zero_add]
      by_cases h1:t < i * τ.size
      ·rw[Aq (by omega),Aq (by omega),hRt,Ae (by rw[htk];omega),Ae (by rw[Aa,htk,hev.len];omega),Ae (by rw[htk];omega)]
      ·by_cases h2:t < i * τ.size+vs.length * τ.size
       ·rw[Aq (by omega),A5 (by omega),Aq (by rw[hev.len];omega),Ae (by rw[Aa,htk,hev.len];omega),Ap (by rw[htk];omega),htk]
       ·rw[A5 (by omega),Aq (by rw[hdl];omega),Ap (by rw[Aa,htk,hev.len];omega),Aa,htk,hev.len,him])
     (fun β'=>by simp[AP9])
    rw[hx'] at hr
    exact hr
 | [],ha|[_],ha|[_,_],ha=>simp[tM] at ha
 | _ :: _ :: _ :: _ :: _,ha=>simp[tM] at ha
end
end Go.Rf

end
section
namespace Go.Rf
set_option maxRecDepth 100000
open Go.Shelf Go.RowKit Go.Lib Go.Proofs
def rI:Ren:=⟨fun|22=>174|29=>242|30=>243|36=>301|n=>n,fun|24=>31|9=>140|n=>n,fun n=>n⟩
theorem B4u:InsL Ab rI (Ab.info? 140).get! ((Ab.info? 140).get!.zero.get!) 2 where
 mixed:=by kernel_rfl
 f22:=⟨Tryz.f174.name,by kernel_rfl,Tryz.func174.trans (Aj some (by kernel_rfl))⟩
 t0:=AO
 a0:=Bu
 z0:=Bn
 v0:=AU
 t3:=AB
 a3:=Bv
 z3:=Bo
 v3:=AV
 t4:=AC
 a4:=Bw
 z4:=Bp
 v4:=AW
 t24:=Tryz.underlying31
 a24:=Tryz.isAgg31
 z24:=Tryz.sizeOf31
 v24:=Tryz.zeroValue31
 z9:=Tryz.sizeOf140
 info:=by kernel_rfl
 size:=by kernel_rfl
 zero:=by kernel_rfl
 zs:=by kernel_rfl
 bytes:=by decide +kernel
 pos:=by decide +kernel
theorem ovI:OvL Ab rI:=⟨_,Tryz.func242,by kernel_rfl,by kernel_rfl,by kernel_rfl,by kernel_rfl⟩
end Go.Rf

end
section
namespace Go.Rf
set_option linter.unusedSectionVars false
variable [T:Laid]
open Go.Shelf Go.RowKit Go.Lib Go.Proofs Go.Sort
def rG:Ren:=⟨fun _=>340,fun|22=>120|25=>253|n=>n,fun n=>n⟩
theorem B4R:Lays8.n4 Ab rG where
 mixed:=by kernel_rfl
 f4:=⟨Tryz.f340.name,by kernel_rfl,Tryz.func340.trans (Aj some (by kernel_rfl))⟩
 t0:=AO
 a0:=Bu
 z0:=Bn
 v0:=AU
 t3:=AB
 a3:=Bv
 z3:=Bo
 v3:=AV
 t4:=AC
 a4:=Bw
 z4:=Bp
 v4:=AW
 t9:=BG
 a9:=Tryz.isAgg9
 z9:=Tryz.sizeOf9
 v9:=BL
 t20:=BB
 a20:=Tryz.isAgg20
 z20:=BO
 v20:=BH
 t22:=A3
 a22:=Tryz.isAgg120
 z22:=Tryz.sizeOf120
 v22:=Tryz.zeroValue120
def rV:Ren:=⟨fun _=>366,fun|28=>22|n=>n,fun n=>n⟩
theorem B4G:Lays.n112 Ab rV where
 mixed:=by kernel_rfl
 f112:=Tryz.func366.trans (Aj some (by kernel_rfl))
 t0:=AO
 a0:=Bu
 z0:=Bn
 v0:=AU
 t3:=AB
 a3:=Bv
 z3:=Bo
 v3:=AV
 t4:=AC
 a4:=Bw
 z4:=Bp
 v4:=AW
 t28:=Tryz.underlying22
 a28:=Tryz.isAgg22
 z28:=Tryz.sizeOf22
 v28:=Tryz.zeroValue22
theorem Ab1 {P:Program} (w:World) {ops:Array Oper} {rest:List Oper} {o:Oper} {a:Act} {Q:Exit→Act→World→Prop}
  (hg:o.guard=none) (s x:Operand) (t tx:TypeId) (hop:o.op=Op.call { callee:=Callee.builtin Builtin.append,args:=#[s,x],argTypes:=#[t,tx] })
  (sv xv:Value) (hs:a.eval s=sv) (hx:a.eval x=xv) (rv:Value) (w':World) (hrun:∀ ty,(AH #[t,tx] ty #[sv,xv]).run P w=.ok rv w')
  (hK:wpList P ops Q rest (a.put o.dst rv) w'):wpList P ops Q (o :: rest) a w:=by
 refine wpList_plain hg fun K hK'=>?_
 have hrun:=hrun o.type
 unfold Oper.wp
 simp[execOp,hop,resolve,invoke,builtin,hs,hx,hrun,Result.andThen]
 exact hK' _ _ hK
theorem B05 {α:Type} [Inhabited α] {enc:α→Value} {w:World} {b o:Nat} {d:Array α} {cs:Array Value} {e:TypeId} {fz:Nat × Nat} (hb:w.heap[b]?=some (.cells cs e fz)):
  (putRow enc w b o d).heap[b]?=some (.cells (putCells enc o d cs) e fz)∧(∀ b',b'≠b→(putRow enc w b o d).heap[b']?=w.heap[b']?)∧(putRow enc w b o d).heap.size=w.heap.size∧SameOut w (putRow enc w b o d):=by
 unfold putRow mapBlock
 refine⟨?_,fun b' h=>?_,?_,⟨rfl,rfl,rfl⟩⟩
 ·simp only[AE,if_true,hb];rfl
 ·simp only[AE];rw[A5 (Ne.symm h)]
 ·simp
section
variable {E:Env} {w w':World} {S:Nat→Prop} {β:Key→Option Nat} {keep:List Nat} {mv:List (Nat × Nat)}
abbrev tB3:Ty:=.pair (.int .i64) (.pair (.int .i64) (.pair (.int .i64) .unit))
def A0G (l:List (List tB3.D)) (k:Nat):Nat:=(l.take k).flatten.length
theorem BA8 {t:Ty} {x:List t.D} {c:List Value}:Rd S w (.sl t) x c↔∃ ad cap,c=[.slice ad (Ao x) cap]∧Ao x≤cap ∧
   (x=([]:List t.D)∨∃ b o cs,ad=some ⟨b,o,none⟩∧S b∧Blk w b cs∧o+Ao x * t.size≤cs.size ∧
    ∀ (i:Nat) (y:t.D),nth x i=some y→Rd S w t y (win cs.toList (o+i * t.size) t.size)):=Iff.rfl
theorem A5q {l:List (List tB3.D)} {k:Nat} (h:k < l.length):A0G l (k+1)=A0G l k+l[k].length:=by
 unfold A0G
 rw[Bg,Ah h,Bc,AY,Aa]
 simp
theorem BT0 (l:List (List tB3.D)) (k:Nat):A0G l k≤l.flatten.length:=by
 unfold A0G
 have h:=Aj (fun l:List (List tB3.D)=>l.flatten.length) (List.take_append_drop k l)
 simp only[AY,Aa] at h
 omega
def B3J (S:Nat→Prop) (w:World) (B:Nat) (l:List (List tB3.D)) (k:Nat) (s:Value) (wr:World):Prop:=
 (l.flatten.length=0∧s=.slice none 0 0) ∨
 ∃ cap cs,s=.slice (some ⟨B,0,none⟩) (A0G l k) cap∧l.flatten.length≤cap∧wr.heap[B]?=some (.cells cs 253 (0,0))∧cs.size=cap * 3∧wr.heap.size=B+1∧Elems S w tB3 (l.take k).flatten (win cs.toList 0 (A0G l k * 3))
set_option maxHeartbeats 6400000 in
set_option maxRecDepth 100000 in
theorem Bh3 (hE:E.P=Ab) (l:List (List tB3.D)) (hn:l.length≤1048576) (hf:l.flatten.length≤1048576):
  Az7 E ⟨[.ro (.sl (.sl tB3))],1,.pair (.sl tB3) .unit,.pr (.own .sh) .sh,keep,mv⟩ 303 [⟨.sl (.sl tB3),l⟩] ((l.flatten:List tB3.D),()):=by
 intro w S β cs hs ha
 match cs,ha with
 | [c1],ha=>
  simp only[tM] at ha
  obtain⟨_,hv,_⟩:=ha
  have h3:tB3.size=3:=rfl
  have h1:(Ty.sl tB3).size=1:=rfl
  obtain⟨ad,cap,rfl,hcap,hel⟩:=BA8.1 hv
  have hcell:∀ i (x:List tB3.D),l[i]?=some x→∃ b o a' c',ad=some ⟨b,o,none⟩∧b < w.heap.size∧w.cell? ⟨b,o+i,none⟩=some (.slice a' x.length c')∧x.length≤c'∧(a'=none→x=[]) ∧
    ∃ news,Elems S w tB3 x news∧∀ wr,Below w.heap.size w wr→Src Ab 3 120 (.slice a' x.length c') x.length news wr:=fun i x hx=>by
   have hi:=(Ag.1 hx).1
   rcases hel with h0|⟨b,o,cs,rfl,hS,⟨e',fz,hb⟩,hsz,hel⟩
   ·rw[h0] at hi;exact absurd hi (AT _)
   ·have h4:=hel i x hx
    rw[h1] at h4 hsz
    obtain⟨a',c',h5,hle,h6⟩:=BA8.1 h4
    have e2:w.cell? ⟨b,o+i,none⟩=cs[o+i]?:=Lib.cell_of_heap hb (o+i)
    have e3:cs[o+i]?=some (.slice a' x.length c'):=by
     have h2:=Aj (fun l:List Value=>l[0]?) h5
     simp only[win,A1,A2] at h2
     simpa using h2
    refine⟨b,o,a',c',rfl,hs.liveS b hS,e2.trans e3,hle,fun ha=>?_,?_⟩
    ·rcases h6 with h6|⟨_,_,_,h6,_⟩
     ·exact h6
     ·rw[ha] at h6;cases h6
    ·by_cases hx0:x=[]
     ·subst hx0
      refine⟨[],.nil,fun wr hb=>?_⟩
      cases a' with
      | none=>exact Src.ofNil wr A3 c'
      | some a=>exact Src.ofSlice wr A3 a 0 c' [] rfl (fun j u hj=>by simp at hj) (fun _ h=>by cases h)
     ·rcases h6 with h6|⟨b2,o2,cs2,rfl,hS2,hB2,hz2,he2⟩
      ·exact absurd h6 hx0
      ·rw[h3] at hz2
       have hE2:Elems S w tB3 x (win cs2.toList o2 (x.length * 3)):=by
        refine .of (lN (by rw[Al];exact hz2)) fun j v hv=>?_
        have hj:j < Ao x:=by unfold nth at hv;exact (Ag.1 hv).1
        have hlt:(j+1) * 3≤Ao x * 3:=Ac _ hj
        rw[An,AS] at hlt
        show Rd S w tB3 v (win (win cs2.toList o2 (x.length * 3)) (j * 3) 3)
        rw[nG (by omega)]
        exact he2 j v hv
       refine⟨_,hE2,fun wr hb=>Src.ofSlice wr A3 _ _ _ _ (by rw[lN (by rw[Al];exact hz2)]) (fun j u hj=>?_) hE2.one⟩
       rw[Addr.add_lit]
       rw[tK] at hj
       split at hj
       ·rw[hb.cell (p:=⟨b2,o2+j,none⟩) (hs.liveS b2 hS2)]
        exact AY8 hB2 hj
       ·cases hj
  rw[hE]
  refine .inl ⟨Tryz.f303,Tryz.func303,by kernel_rfl,by kernel_rfl,?_⟩
  show Calls Ab 303 #[.slice ad l.length cap] w _
  have hi0:Ab.info? 253=some (Ab.info? 253).get!:=by kernel_rfl
  have hz0:(Ab.info? 253).get!.zero=some ((Ab.info? 253).get!.zero).get!:=by kernel_rfl
  have hs3:(Ab.info? 253).get!.size=3:=by kernel_rfl
  have hb24:(Ab.info? 253).get!.bytes=24:=by kernel_rfl
  have hzc:((Ab.info? 253).get!.zero).get!.cells.size=3:=by kernel_rfl
  generalize (Ab.info? 253).get!=i0 at hi0 hz0 hs3 hb24 hzc
  generalize (i0.zero).get!=z at hz0 hzc
  go_enter Tryz.func303,Tryz.ntmps303
  go_wp2
  go_loopw [3,11] (fun s i wr=>∃ k:Nat,k≤l.length∧i=.int .i64 k∧s=.int .i64 (A0G l k:Nat)∧wr=w)
   (fun _ i _=>l.length - (RowKit.intOf i).toNat)
  case atStart=>exact⟨0,A6 _,rfl,rfl,rfl⟩
  case round=>
   obtain⟨k,hk,rfl,rfl,hwr⟩:=hrel
   have hwr:=hwr.symm
   subst hwr
   by_cases hp:k < l.length
   ·have hx:l[k]?=some l[k]:=Ah hp
    obtain⟨b,o,a',c',rfl,hb,hcl,hle,_,_⟩:=hcell k _ hx
    have hc1:=A5q hp
    have hc2:=BT0 l (k+1)
    go_wp2
    go_roundw
    case rel=>exact⟨k+1,by omega,by go_num,by rw[hc1];go_num,(by first|rfl|trivial)⟩
    case measure=>simp[RowKit.intOf];omega
   ·have hke:k=l.length:=by omega
    subst hke
    have hcl:A0G l l.length=l.flatten.length:=by unfold A0G;rw[AN]
    rw[hcl]
    obtain⟨N,hN⟩:∃ N,N=l.flatten.length:=⟨_,rfl⟩
    rw[← hN]
    have hgr:∀ _:Unit,Calls Ab 340 #[.slice none 0 0,.int .i64 (N:Nat)] w fun e w'=>∃ s,e=.returned s∧B3J S w w.heap.size l 0 s w'∧Below w.heap.size w w':=by
     intro _
     rw[hN]
     by_cases h0:l.flatten.length=0
     ·rw[h0]
      refine (Any8.slices_Grow_room B4R none 0 0 0 w (A6 _) (by decide) (by decide) (by decide)).mono ?_
      rintro e w' ⟨rfl,rfl⟩
      exact⟨_,rfl,.inl ⟨h0,rfl⟩,Below.refl _ _⟩
     ·refine (Any8.slices_Grow_grow B4R i0 z hi0 hz0 (by omega) none 0 0 l.flatten.length [] w (A6 _) (by omega) (by rw[hb24];omega) (by omega) (by rw[hs3];rfl) (fun _=>rfl) (fun _ h=>by cases h)).mono ?_
      rintro e w' ⟨rfl,rfl⟩
      have hg:=grownCap_ge w (0+l.flatten.length) 0 253
      refine⟨_,rfl,.inr ⟨_,_,rfl,Bm (by omega) hg,B0K w.drew _,?_,A76 w.drew _,?_⟩,?_⟩
      ·rw[A7,A7,A1y hzc,A1y hzc,show ([]:List Value).toArray.size=0 from rfl,show rG.t 25=253 from rfl]
       generalize grownCap w (0+l.flatten.length) 0 253=G at hg
       omega
      ·rw[show A0G l 0 * 3=0 by rfl]
       exact .of (by simp[win]) fun j v hv=>by simp[nth] at hv
      ·exact (Below.refl _ w).drew.alloc (AK _) _
    have hN':∀ _:Unit,N=l.flatten.length:=fun _=>hN
    have hI:∀ _:Unit,Ab.info? 253=some i0∧i0.size=3:=fun _=>⟨hi0,hs3⟩
    clear hi0 hz0 hs3 hb24 hzc hcl hN
    go_wp2_with (go_at_call 340;refine (hgr ()).mono ?_;rintro e W1 ⟨s,rfl,hG,hB1⟩)
    go_loopw [6,27] (fun s i wr=>∃ k:Nat,k≤l.length∧i=.int .i64 k∧B3J S w w.heap.size l k s wr∧Below w.heap.size w wr)
     (fun _ i _=>l.length - (RowKit.intOf i).toNat)
    case atStart=>exact⟨0,A6 _,rfl,hG,hB1⟩
    case round=>
     obtain⟨k,hk,rfl,hG,hnx⟩:=hrel
     by_cases hp:k < l.length
     ·have hx:l[k]?=some l[k]:=Ah hp
      obtain⟨b,o,a',c',rfl,hb,hcl,hle,hnil,news,hnew,hsrc⟩:=hcell k _ hx
      have hcl':wr.cell? ⟨b,o+k,none⟩=some (.slice a' l[k].length c'):=by rw[hnx.cell (p:=⟨b,o+k,none⟩) hb];exact hcl
      have hs1:=hsrc wr hnx
      have hnl:news.length=l[k].length * 3:=hnew.len
      have hcs:=A5q hp
      have hcl2:=BT0 l (k+1)
      have hfl:(l.take (k+1)).flatten=(l.take k).flatten++l[k]:=by
       rw[Bg,hx,Bc,AY];simp
      obtain⟨hi0,hs3⟩:=hI ()
      rcases hG with ⟨h0,rfl⟩| ⟨cap',cs,rfl,hcap',hbk,hsz,hhs,hE⟩
      ·have hz:l[k].length=0:=by omega
       have hnews:news=[]:=AD.1 (by omega)
       subst hnews
       rw[hz] at hs1 hcl'
       have hrun:∀ ty,(AH #[120,120] ty #[.slice none 0 0,.slice a' 0 c']).run Ab wr=.ok (.slice none 0 0) wr:=fun ty=>
        run_append_nothing wr 120 120 ty 253 i0 A3 hi0 none 0 0 (AK _) _ (by rw[hs3];exact hs1)
       have hG':B3J S w w.heap.size l (k+1) (.slice none 0 0) wr:=.inl ⟨h0,rfl⟩
       clear hi0 hs3 hs1 hcs hcl2 hfl hz h0
       go_wp2_with (at_builtin;refine Ab1 _ rfl _ _ 120 120 rfl _ _ rfl rfl _ _ hrun ?_)
       go_roundw
       case rel=>exact⟨k+1,by omega,by go_num,hG',hnx⟩
       case measure=>simp[RowKit.intOf];omega
      ·have hlt:w.heap.size < wr.heap.size:=by omega
       have hrun:∀ ty,(AH #[120,120] ty #[.slice (some ⟨w.heap.size,0,none⟩) (A0G l k) cap',.slice a' l[k].length c']).run Ab wr=.ok (.slice (some ⟨w.heap.size,0,none⟩) (A0G l k+l[k].length) cap') (wr.setCells w.heap.size (0+A0G l k * i0.size) news):=fun ty=>
        run_append_room_src wr 120 120 ty 253 i0 A3 hi0 w.heap.size 0 (A0G l k) cap' _ _ news (by rw[hs3];exact hs1) (by omega)
         (fun j hj=>by rw[hs3];exact Ar1 ⟨_,_,hbk⟩ (by omega))
         (fun j hj=>by rw[hs3];exact AX1 (q:=false) ⟨_,_,hbk,fun _ _=>by simp,.inr rfl⟩ (by omega))
       rw[hs3] at hrun
       obtain⟨cs1,k1,k2,k3,k4,k5⟩:=kC (vs:=news) (o:=0+A0G l k * 3) (b:=w.heap.size) hbk (by omega)
       have htl:cs.toList.length=cs.size:=Al
       have hs1':cs1.size=cs.size:=by
        have:=Aj Ao k2
        rw[oG (by rw[htl];omega)] at this
        simpa using this
       obtain⟨W2,hW2⟩:∃ W2,W2=wr.setCells w.heap.size (0+A0G l k * 3) news:=⟨_,rfl⟩
       rw[← hW2] at hrun k1 k3 k4 k5
       have hG':B3J S w w.heap.size l (k+1) (.slice (some ⟨w.heap.size,0,none⟩) (A0G l k+l[k].length) cap') W2:=by
        refine .inr ⟨cap',cs1,by rw[hcs],hcap',k1,by rw[hs1'];exact hsz,by rw[k4];exact hhs,?_⟩
        rw[hfl]
        have he:=(hE.append hnew).flat (S':=S) (w':=w) rfl
        have hw:win cs1.toList 0 (A0G l (k+1) * 3)=win cs.toList 0 (A0G l k * 3)++news:=by
         rw[hcs]
         refine A5I (by rw[Aa,lN (by rw[htl];omega)];omega) fun t ht=>?_
         rw[k2,qI (by rw[htl];omega)]
         by_cases h1:t < A0G l k * 3
         ·rw[Aq (by omega),Ae (by rw[lN (by rw[htl];omega)];omega),tK,Aq h1]
         ·rw[A5 (by omega),Aq (by omega),Ap (by rw[lN (by rw[htl];omega)];omega),lN (by rw[htl];omega)]
          congr 1;omega
        rw[hw]
        exact he
       have hnx':Below w.heap.size w W2:=⟨k5.os.trans hnx.os,k5.tape.trans hnx.tape,k5.output.trans hnx.output,by rw[k4];exact hnx.size,fun b' hb'=>(k3 b' (by omega)).trans (hnx.block b' hb')⟩
       generalize A0G l k+l[k].length=ln at hrun hG'
       clear hi0 hs3 hs1 hcs hcl2 hfl hW2 k1 k2 k3 k4 k5 hsz hhs hE hs1' htl hbk hnl hcap' hnew
       go_wp2_with (at_builtin;refine Ab1 _ rfl _ _ 120 120 rfl _ _ rfl rfl _ _ hrun ?_)
       go_roundw
       case rel=>exact⟨k+1,by omega,by go_num,hG',hnx'⟩
       case measure=>simp[RowKit.intOf];omega
     ·have hke:k=l.length:=by omega
      subst hke
      go_wp2
      go_ret
      have hcl:A0G l l.length=l.flatten.length:=by unfold A0G;rw[AN]
      rcases hG with ⟨h0,rfl⟩| ⟨cap',cs,rfl,hcap',hbk,hsz,hhs,hE⟩
      ·have hfe:l.flatten=[]:=AD.1 h0
       obtain⟨h1,h2⟩:=As4 hs hnx
       rw[hfe]
       refine⟨S,β,[[.slice none 0 0]],h1,h2,?_,rfl,by simp[AP9]⟩
       simp only[mQ]
       refine⟨?_,trivial⟩
       show zX S β noH wr [0] (.sl tB3) (.own .sh) ([]:List tB3.D) _
       simp only[zX,Fl.base]
       exact⟨by simp[lV,Fl.pins],none,0,rfl,A6 _,.inl rfl⟩
      ·rw[hcl]
       rw[AN] at hE
       rw[hcl] at hE
       exact A7F (τ:=tB3) hs hbk (fun b hb=>hnx.block b hb) hhs ⟨hnx.os,hnx.tape,hnx.output⟩ hcap' (by rw[h3,hsz];exact AK _) (hE.flat (S':=S) rfl) rfl (fun _=>by simp[AP9])
 | [],ha=>simp[tM] at ha
 | _ :: _ :: _,ha=>simp[tM] at ha
theorem B1z (hE:E.P=Ab) (xs:List Int) (hn:xs.length≤1048576):
  Az7 E ⟨[.io (.sl (.int .i64)) (.own .sh) (.own .sh) 0 []],0,.pair (.sl (.int .i64)) .unit,.pr (.own .sh) .sh,keep,mv⟩ 366 [⟨.sl (.int .i64),xs⟩] ((xs.reverse:List Int),()):=by
 intro w S β cs hs ha
 match cs,ha with
 | [c1],ha=>
  simp only[tM] at ha
  obtain⟨_,_,hv,_⟩:=ha
  obtain⟨ad,cap,rfl,hl,hb⟩:=BC5 (τ:=.int .i64) hv
  have h1:(Ty.int IntKind.i64).size=1:=rfl
  rw[hE]
  refine .inl ⟨Tryz.f366,Tryz.func366,by kernel_rfl,by kernel_rfl,?_⟩
  show Calls Ab 366 #[.slice ad xs.length cap] w _
  have back:∀ w':World,Sane w' S (fun k=>if k=[1] then β [0] else none)→Step w S β w' S (fun k=>if k=[1] then β [0] else none)→zX S (fun k=>if k=[1] then β [0] else none) noH w' [1] (.sl (.int .i64)) (.own .sh) (xs.reverse:List Int) [.slice ad xs.length cap] →
    Ret ⟨[.io (.sl (.int .i64)) (.own .sh) (.own .sh) 0 []],0,.pair (.sl (.int .i64)) .unit,.pr (.own .sh) .sh,keep,mv⟩ ((xs.reverse:List Int),()) [[.slice ad xs.length cap]] w S β (.tuple #[]) w':=fun w' a1 a2 a3=>by
   refine⟨S,_,[],a1,a2,?_,rfl,?_⟩
   ·simp only[mQ]
   ·simp only[AP9]
    exact⟨rfl,a3,trivial⟩
  have sane:∀ w':World,(∀ b,b < w.heap.size→(∀ k,β k≠some b)→w'.heap[b]?=w.heap[b]?)→w'.heap.size=w.heap.size→SameOut w w'→Sane w' S (fun k=>if k=[1] then β [0] else none)∧Step w S β w' S (fun k=>if k=[1] then β [0] else none):=fun w' hb hsz ho=>by
   have hg:∀ k b,(if k=[1] then β [0] else none)=some b→k=[1]∧β [0]=some b:=fun k b h=>by
    split at h
    ·exact⟨by assumption,h⟩
    ·cases h
   refine⟨⟨fun k k' b h1 h2=>(hg k b h1).1.trans (hg k' b h2).1.symm,fun k b h=>hs.sep _ b (hg k b h).2,fun k b h=>by rw[hsz];exact hs.live _ b (hg k b h).2,fun b h=>by rw[hsz];exact hs.liveS b h,hs.tabs fun b h=>⟨h,hb b (hs.liveS b h) fun k e=>hs.sep k b e h⟩⟩,
    ⟨BC hsz.symm,hb,fun k b h=>.inl ⟨_,(hg k b h).2⟩,fun _ h=>h,fun _ h=>.inl h,ho⟩⟩
  by_cases h0:xs=[]
  ·subst h0
   refine (Any.slices_Reverse_int_empty B4G ad cap w).mono ?_
   rintro e w' ⟨rfl,rfl⟩
   obtain⟨s1,s2⟩:=sane w' (fun _ _ _=>rfl) rfl .rfl'
   refine back w' s1 s2 ?_
   simp only[zX,Fl.base]
   refine⟨by simp[lV,Fl.pins],ad,cap,rfl,hl,?_⟩
   rcases hb with hb|⟨b,o,cs,rfl,hk,hB,hz,hel⟩
   ·exact .inl hb
   ·exact .inr ⟨b,o,cs,rfl,by simpa using hk,hB,hz,fun i y hy=>absurd (Ag.1 (show ([]:List Int)[i]?=some y from hy)).1 (AT _)⟩
  ·have hpos:0 < xs.length:=List.length_pos_iff.2 h0
   have hl:xs.length≤cap:=hl
   rcases hb with hb|⟨b,o,cs,rfl,hk,hB,hz,hel⟩
   ·omega
   rw[h1] at hz hel
   have hget:∀ j (h:j < xs.length),cs[o+j]?=some (.int .i64 xs[j]):=fun j h=>by
    have h2:=hel.get j xs[j] (Ah h)
    rw[h1] at h2
    simp only[Rd] at h2
    have h3:(win (win cs.toList o (xs.length * 1)) (j * 1) 1)[0]?=some (.int .i64 xs[j]):=(Aj (fun l:List Value=>l[0]?) h2).trans rfl
    rw[tK,Aq (by omega),tK,Aq (by omega),A4] at h3
    rw[show o+j=o+(j * 1+0) by omega]
    exact h3
   have hsz:o+xs.length≤cs.size:=by omega
   have hH:Holds (Value.int .i64) w b o xs.toArray:=fun j hj=>by
    have hj:j < xs.length:=by simpa using hj
    refine⟨?_,AX1 hB (by omega)⟩
    rw[AY8 hB.blk (v:=.int .i64 xs[j]) (by rw[A4];exact hget j hj),getElem!_pos _ j (by simpa using hj)]
    simp
   refine (Any.slices_Reverse_int B4G b o cap xs w hH (by omega)).mono ?_
   rintro e w' ⟨rfl,n,rfl⟩
   obtain⟨eb,fz,hbl,hfz,hq⟩:=hB
   obtain⟨p1,p2,p3,p4⟩:=B05 (enc:=Value.int .i64) (o:=o) (d:=xs.reverse.toArray) (w:=Sort.ahead w n) (b:=b) hbl
   have p2:∀ b',b'≠b→(putRow (Value.int .i64) (Sort.ahead w n) b o xs.reverse.toArray).heap[b']?=w.heap[b']?:=p2
   have p3:(putRow (Value.int .i64) (Sort.ahead w n) b o xs.reverse.toArray).heap.size=w.heap.size:=p3
   have ps:(putCells (Value.int .i64) o xs.reverse.toArray cs).size=cs.size:=by unfold putCells;simp
   have pg:∀ j (h:j < xs.reverse.length),(putCells (Value.int .i64) o xs.reverse.toArray cs)[o+j]?=some (.int .i64 xs.reverse[j]):=fun j h=>by
    have h':j < xs.length:=by simpa using h
    have hc:o+j < cs.size:=by omega
    unfold putCells
    rw[Array.getElem?_mapIdx,AF hc]
    simp only[Option.map_some]
    rw[Aq ⟨by omega,by simp;omega⟩,show o+j - o=j by omega,getElem!_pos _ j (by simpa using h)]
    simp
   obtain⟨s1,s2⟩:=sane _ (fun b' _ hb'=>p2 b' fun e=>hb' [0] (by rw[e];exact hk)) p3 ⟨p4.os,p4.tape,p4.output⟩
   refine back _ s1 s2 ?_
   have hlr:xs.reverse.length=xs.length:=List.length_reverse
   have hwl:(putCells (Value.int .i64) o xs.reverse.toArray cs).toList.length=cs.size:=by rw[Al,ps]
   have:=BP5 (S:=S) (H:=noH) (w:=putRow (Value.int .i64) (Sort.ahead w n) b o xs.reverse.toArray) (β:=fun k=>if k=[1] then β [0] else none) (key:=[1]) (τ:=.int .i64) (xs:=(xs.reverse:List Int)) (cap:=cap) (b:=b) (o:=o) (Bm (BC hlr) hl) (by simpa using hk) ⟨eb,fz,p1,by rw[ps];exact hfz,hq⟩ (by rw[ps,h1];exact hz)
    (cx:=win (putCells (Value.int .i64) o xs.reverse.toArray cs).toList o (xs.reverse.length * 1)) (.of (by rw[lN (by rw[hwl];omega)];rfl) fun j v hv=>by
     have hj:j < xs.reverse.length:=(Ag.1 hv).1
     have hv':xs.reverse[j]=v:=(Ag.1 hv).2
     rw[h1]
     simp only[Rd]
     apply Az
     intro t
     rw[tK]
     by_cases ht:t < 1
     ·have:t=0:=by omega
      subst this
      rw[Aq ht,tK,Aq (by omega),A4,show o+(j * 1+0)=o+j by omega,pg j hj,hv'];rfl
     ·rw[A5 ht]
      exact (Bt (by simp;omega)).symm) rfl
   have hlr':Ao (α:=(Ty.int .i64).D) xs.reverse=Ao xs:=hlr
   rw[hlr'] at this
   exact this
 | [],ha=>simp[tM] at ha
 | _ :: _ :: _,ha=>simp[tM] at ha
end
end Go.Rf

end
