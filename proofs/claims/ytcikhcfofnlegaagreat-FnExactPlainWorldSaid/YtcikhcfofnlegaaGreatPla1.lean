/- What the program computes, in plain words: part 4. No condition. -/
import Derived.Test.YtcikhcfofnlegaaGreatRpC
import Derived.Below
import Derived.Shelf.Strings.Repeat
import Derived.WalkKit
import Derived.BigCall
import Derived.Test.YtcikhcfofnlegaaGreatProg
import Derived.Shelf.LaysM
import Derived.Shelf.Lays
import Derived.Maps.Own
import Derived.Maps.Views
import Derived.Shelf.SlLaysE0
import Derived.Shelf.Spec.SlicesInsertGrow
import Derived.Shelf.RegionOpenPlain
import Derived.Deep.RegionLaw
import Derived.Lib.Walk
import Derived.Lib.SliceRun
import Derived.Shelf.Spec.SlicesGrow
import Derived.Shelf.Slices.Reverse
import Derived.Deep.Upon
import Derived.Lib.JoinLaws
import Derived.Lib.Builder
import Derived.KernelRfl
open Go.IntKind renaming wrap->Aa,bits->Ac,signed->AJ
open Nat renaming blt->Ab,mul_add->Am,mod_eq_of_lt->Ao,lt_of_lt_of_le->Ap,min_eq_left->Aq,ble->Au,mul_le_mul_right->Ay,add_mul->A2,mul_left_comm->AC,and_two_pow_sub_one_eq_mod->AE,mul_assoc->AG,add_zero->AI,lt_of_le_of_lt->AL,or_lt_two_pow->AN,zero_le->AO,mod_add_mod->AR,le_refl->AT,xor_lt_two_pow->Bk,le_trans->Bp,and_le_left->Bs,add_mod_mod->Bu
open List renaming replicate->Ad,map->Ak,getD_eq_getElem?_getD->Al,length_append->As,drop->Av,take->Ax,length_take->A1,getElem?_take->AA,ext_getElem?->AD,length_drop->AF,getElem?_drop->AM,getElem?_eq_getElem->AP,length_map->AQ,take_eq_take_min->AS,flatMap_append->AU,length_mapIdx->Bl,take_add_one->Bn,append_assoc->Bo,length_cons->Bq,length_set->Bt
open Int renaming tmod->Ae,fdiv->Ah,tdiv->Ai,toNat->An
open Min renaming min->Af
open UInt8 renaming toNat->Ag,ofNat->Aj,toNat_lt->Bv
open _root_ renaming decide_eq_true->Ar,congrArg->Aw,decide_eq_false->A3,cond_true->A5,if_pos->Bw
open Go.Proofs.Tryz renaming f349->At,f310->Az,f322->A0,prog->A4,f304->A7,f248->A8,f350->A9,f191->AH,f315->AV,f246->AW,f259->AX,f374->AY,f377->AZ,f375->A',f308->Ba,f356->Bb,f355->Bc,f379->Be,f358->Bf,f359->Bg,f360->Bh,f183->Bi,f45->Bm
open Option renaming bind_some->A6,bind_eq_some_iff->AB
open BitVec renaming toNat_ofNat->AK
open Bool renaming or_false->Bj,and_eq_true->Br
set_option linter.unusedVariables false
set_option linter.unusedSimpArgs false
section
namespace Go.Rf
set_option linter.unusedSectionVars false
variable [T:Laid]
theorem AN8 (n a:Nat):BitVec.ofInt n (a:Int)=BitVec.ofNat n a:=by
 apply BitVec.eq_of_toNat_eq
 simp
theorem A8f (n:Int):Aa .u32 n=n % 4294967296:=by
 unfold Aa
 simp[AJ,Ac]
theorem BB9 (n:Int):Aa .u8 n=n % 256:=by
 unfold Aa
 simp[AJ,Ac]
theorem An8 (n:Int):Aa .u64 n=n % 18446744073709551616:=by
 unfold Aa
 simp[AJ,Ac]
theorem Ad5 (n:Nat):Aa .u32 (n:Int)=((n % 4294967296:Nat):Int):=by rw[A8f];omega
theorem uY (n:Nat):Aa .u8 (n:Int)=((n % 256:Nat):Int):=by rw[BB9];omega
theorem tV {n:Nat} (h:n < 9223372036854775808):Aa .i64 (n:Int)=(n:Int):=yI (by omega) (by omega)
def uV:IntKind→Nat
 | .i8=>128|.i16=>32768|.i32=>2147483648|.i64=>9223372036854775808
 | .u8=>256|.u16=>65536|.u32=>4294967296|.u64=>18446744073709551616
theorem A1d (k:IntKind):uV k≤2 ^ k.bits:=by cases k<;>decide
theorem AL0 {k:IntKind} {n:Nat} (h:n < uV k):Aa k (n:Int)=(n:Int):=by
 cases k<;>simp only[uV] at h<;>(unfold Aa;simp[AJ,Ac])<;>omega
theorem A9e (k:IntKind):∃ e,uV k=2 ^ e:=by
 cases k
 ·exact⟨7,rfl⟩
 ·exact⟨15,rfl⟩
 ·exact⟨31,rfl⟩
 ·exact⟨63,rfl⟩
 ·exact⟨8,rfl⟩
 ·exact⟨16,rfl⟩
 ·exact⟨32,rfl⟩
 ·exact⟨64,rfl⟩
theorem AG5 {k:IntKind} {a b:Nat} (ha:a < uV k) (hb:b < uV k):yU .and k (a:Int) (b:Int)=((a &&& b:Nat):Int):=by
 have h:=A1d k
 unfold yU
 simp only[AN8,BitVec.toNat_and,AK]
 rw[Ao (by omega),Ao (by omega),AL0 (AL Bs ha)]
theorem Aa9 {k:IntKind} {a b:Nat} (ha:a < uV k) (hb:b < uV k):yU .or k (a:Int) (b:Int)=((a ||| b:Nat):Int):=by
 have h:=A1d k
 obtain⟨e,he⟩:=A9e k
 unfold yU
 simp only[AN8,BitVec.toNat_or,AK]
 rw[Ao (by omega),Ao (by omega),AL0 (by rw[he] at ha hb ⊢;exact AN ha hb)]
theorem A2O {k:IntKind} {a b:Nat} (ha:a < uV k) (hb:b < uV k):yU .xor k (a:Int) (b:Int)=((a ^^^ b:Nat):Int):=by
 have h:=A1d k
 obtain⟨e,he⟩:=A9e k
 unfold yU
 simp only[AN8,BitVec.toNat_xor,AK]
 rw[Ao (by omega),Ao (by omega),AL0 (by rw[he] at ha hb ⊢;exact Bk ha hb)]
theorem mE (a n:Nat):Ah (a:Int) (2 ^ n:Int)=((a / 2 ^ n:Nat):Int):=by
 have:(2 ^ n:Int)=((2 ^ n:Nat):Int):=by simp
 rw[this];exact (Int.ofNat_fdiv a (2 ^ n)).symm
theorem A3m (a n:Nat):(a:Int) * (2 ^ n:Int)=((a * 2 ^ n:Nat):Int):=by simp
theorem BC4 (a:Nat):a &&& 4294967295=a % 4294967296:=AE a 32
theorem A6g (a:Nat):a &&& 67108863=a % 67108864:=AE a 26
end Go.Rf

end
section
namespace Go.Rf
set_option linter.unusedSectionVars false
variable [T:Laid]
def xO {α:Type} (f:Nat→α→α):(n i:Nat)→α→α
 | 0,_,a=>a
 | n+1,i,a=>xO f n (i+1) (f i a)
theorem A6b {α γ:Type} (F:α→Int→Option γ) (f:Nat→α→α) (Inv:Nat→α→Prop) (n:Nat) (K:α→Option γ)
  (stop:∀ a,Inv n a→F a (n:Nat)=K a) (step:∀ a i,i < n→Inv i a→F a (i:Nat)=F (f i a) ((i+1:Nat):Int)∧Inv (i+1) (f i a)):
  ∀ (m i:Nat) (a:α),n - i=m→i≤n→Inv i a→F a i=K (xO f m i a)∧Inv n (xO f m i a)
 | 0,i,a,hm,hi,ha=>by
  have:i=n:=by omega
  subst this
  exact⟨stop a ha,ha⟩
 | m+1,i,a,hm,hi,ha=>by
  obtain⟨h1,h2⟩:=step a i (by omega) ha
  obtain⟨h3,h4⟩:=A6b F f Inv n K stop step m (i+1) (f i a) (by omega) (by omega) h2
  exact⟨h1.trans h3,h4⟩
theorem yE {α γ:Type} (F:α→Int→Option γ) (f:Nat→α→α) (Inv:Nat→α→Prop) (n:Nat) (K:α→Option γ)
  (stop:∀ a,Inv n a→F a (n:Nat)=K a) (step:∀ a i,i < n→Inv i a→F a (i:Nat)=F (f i a) ((i+1:Nat):Int)∧Inv (i+1) (f i a)) (a:α) (ha:Inv 0 a):
  F a 0=K (xO f n 0 a)∧Inv n (xO f n 0 a):=A6b F f Inv n K stop step n 0 a rfl (AO _) ha
def cl (l:List Nat):List Int:=Ak (fun (x:Nat)=>(x:Int)) l
theorem oI (l:List Nat):(cl l).length=l.length:=by unfold cl;exact AQ _
theorem zY (l:List Nat) (i:Nat):(cl l).getD i (0:Int)=((l.getD i 0:Nat):Int):=by
 unfold cl
 rw[Al,Al,List.getElem?_map]
 cases l[i]?<;>rfl
theorem uB (l:List Nat) (i a:Nat):(cl l).set i (a:Int)=cl (l.set i a):=by
 unfold cl
 rw[List.map_set]
def Bd (B:Nat) (l:List Nat):Prop:=∀ x ∈ l,x < B
theorem Bd.get {B:Nat} {l:List Nat} (h:Bd B l) (hB:0 < B) (i:Nat):l.getD i 0 < B:=by
 rw[Al]
 cases e:l[i]? with
 | none=>exact hB
 | some x=>exact h x (List.mem_of_getElem? e)
theorem Bd.set {B:Nat} {l:List Nat} (h:Bd B l) {i a:Nat} (ha:a < B):Bd B (l.set i a):=fun x hx=>by
 rcases List.mem_or_eq_of_mem_set hx with hx|rfl
 ·exact h x hx
 ·exact ha
theorem Bd.rep {B n:Nat} (hB:0 < B):Bd B (Ad n 0):=fun x hx=>by
 rw[(List.mem_replicate.1 hx).2];exact hB
end Go.Rf

end
section
namespace Go.Rf
set_option linter.unusedSectionVars false
variable [T:Laid]
def PP:Nat:=1361129467683753853853498429727072845819
def val (a b c d e:Nat):Nat:=a+67108864 * b+4503599627370496 * c+302231454903657293676544 * d+20282409603651670423947251286016 * e
def car (a b c d e : Nat) : List Nat :=
  [a % 67108864 + 5 * ((e + (d + (c + (b + a / 67108864) / 67108864) / 67108864) / 67108864) / 67108864),
   (b + a / 67108864) % 67108864,
   (c + (b + a / 67108864) / 67108864) % 67108864,
   (d + (c + (b + a / 67108864) / 67108864) / 67108864) % 67108864,
   (e + (d + (c + (b + a / 67108864) / 67108864) / 67108864) / 67108864) % 67108864]
theorem A1I (a b c d e:Nat):∃ a' b' c' d' e' q,car a b c d e=[a',b',c',d',e']∧val a' b' c' d' e'+q * PP=val a b c d e ∧
  b' < 67108864∧c' < 67108864∧d' < 67108864∧e' < 67108864 ∧
  q=(e+(d+(c+(b+a / 67108864) / 67108864) / 67108864) / 67108864) / 67108864∧a'=a % 67108864+5 * q:=by
 refine⟨_,_,_,_,_,(e+(d+(c+(b+a / 67108864) / 67108864) / 67108864) / 67108864) / 67108864,rfl,?_,?_,?_,?_,?_,rfl,rfl⟩
 ·unfold val PP
  generalize h1:b+a / 67108864=b1
  generalize h2:c+b1 / 67108864=c1
  generalize h3:d+c1 / 67108864=d1
  generalize h4:e+d1 / 67108864=e1
  omega
 all_goals exact Nat.mod_lt _ (by decide)
theorem BS4 (a b c d e:Nat) (ha:a < 288230376151711744) (hb:b < 288230376151711744) (hc:c < 288230376151711744) (hd:d < 288230376151711744) (he:e < 288230376151711744):
  ∃ a1 b1 c1 d1 e1 a2 b2 c2 d2 e2 a3 b3 c3 d3 e3,car a b c d e=[a1,b1,c1,d1,e1]∧car a1 b1 c1 d1 e1=[a2,b2,c2,d2,e2]∧car a2 b2 c2 d2 e2=[a3,b3,c3,d3,e3] ∧
   val a3 b3 c3 d3 e3 % PP=val a b c d e % PP∧a3 < 67108864∧b3 < 67108864∧c3 < 67108864∧d3 < 67108864∧e3 < 67108864 ∧
   a1 < 1152921504606846976∧b1 < 67108864∧c1 < 67108864∧d1 < 67108864∧e1 < 67108864∧a2 < 1152921504606846976∧b2 < 67108864∧c2 < 67108864∧d2 < 67108864∧e2 < 67108864:=by
 obtain⟨a1,b1,c1,d1,e1,q1,h1,v1,hb1,hc1,hd1,he1,hq1,ha1⟩:=A1I a b c d e
 obtain⟨a2,b2,c2,d2,e2,q2,h2,v2,hb2,hc2,hd2,he2,hq2,ha2⟩:=A1I a1 b1 c1 d1 e1
 obtain⟨a3,b3,c3,d3,e3,q3,h3,v3,hb3,hc3,hd3,he3,hq3,ha3⟩:=A1I a2 b2 c2 d2 e2
 have hq1':q1 < 8589934592:=by rw[hq1];omega
 have ha1':a1 < 67108864+5 * 8589934592:=by omega
 have hq2':q2≤1:=by rw[hq2];omega
 have ha2':a2 < 67108864+5:=by omega
 have ha3':a3 < 67108864:=by
  rcases Nat.lt_or_ge a2 67108864 with h|h
  ·have:q3=0:=by rw[hq3];omega
   omega
  ·have:q3≤1:=by rw[hq3];omega
   omega
 refine⟨a1,b1,c1,d1,e1,a2,b2,c2,d2,e2,a3,b3,c3,d3,e3,h1,h2,h3,?_,ha3',hb3,hc3,hd3,he3,by omega,hb1,hc1,hd1,he1,by omega,hb2,hc2,hd2,he2⟩
 rw[← v1,← v2,← v3]
 simp[Nat.add_mul_mod_self_right]
theorem BM5 {a b c d e:Nat} (ha:a < 67108864) (hb:b < 67108864) (hc:c < 67108864) (hd:d < 67108864) (he:e < 67108864):car a b c d e=[a,b,c,d,e]:=by
 unfold car
 rw[show a / 67108864=0 by omega,AI,show b / 67108864=0 by omega,AI,show c / 67108864=0 by omega,AI,show d / 67108864=0 by omega,AI,show e / 67108864=0 by omega,
  Ao ha,Ao hb,Ao hc,Ao hd,Ao he,Nat.mul_zero,AI]
theorem sc (α β x y:Nat):(α * x) * (β * y)=(α * β) * (x * y):=Nat.mul_mul_mul_comm α x β y
theorem BD4 (x0 x1 x2 x3 x4 y0 y1 y2 y3 y4:Nat):∃ q,val x0 x1 x2 x3 x4 * val y0 y1 y2 y3 y4 =
  val (x0 * y0+5 * (x1 * y4)+5 * (x2 * y3)+5 * (x3 * y2)+5 * (x4 * y1)) (x0 * y1+x1 * y0+5 * (x2 * y4)+5 * (x3 * y3)+5 * (x4 * y2))
   (x0 * y2+x1 * y1+x2 * y0+5 * (x3 * y4)+5 * (x4 * y3)) (x0 * y3+x1 * y2+x2 * y1+x3 * y0+5 * (x4 * y4)) (x0 * y4+x1 * y3+x2 * y2+x3 * y1+x4 * y0)+q * PP:=by
 refine⟨(x1 * y4+x2 * y3+x3 * y2+x4 * y1)+67108864 * (x2 * y4+x3 * y3+x4 * y2)+4503599627370496 * (x3 * y4+x4 * y3)+302231454903657293676544 * (x4 * y4),?_⟩
 unfold val PP
 have e:(x0+67108864 * x1+4503599627370496 * x2+302231454903657293676544 * x3+20282409603651670423947251286016 * x4) * (y0+67108864 * y1+4503599627370496 * y2+302231454903657293676544 * y3+20282409603651670423947251286016 * y4) =
   (x0 * y0)+67108864 * (x0 * y1)+4503599627370496 * (x0 * y2)+302231454903657293676544 * (x0 * y3)+20282409603651670423947251286016 * (x0 * y4)
   + (67108864 * (x1 * y0)+(67108864 * 67108864) * (x1 * y1)+(67108864 * 4503599627370496) * (x1 * y2)+(67108864 * 302231454903657293676544) * (x1 * y3)+(67108864 * 20282409603651670423947251286016) * (x1 * y4))
   + (4503599627370496 * (x2 * y0)+(4503599627370496 * 67108864) * (x2 * y1)+(4503599627370496 * 4503599627370496) * (x2 * y2)+(4503599627370496 * 302231454903657293676544) * (x2 * y3)+(4503599627370496 * 20282409603651670423947251286016) * (x2 * y4))
   + (302231454903657293676544 * (x3 * y0)+(302231454903657293676544 * 67108864) * (x3 * y1)+(302231454903657293676544 * 4503599627370496) * (x3 * y2)+(302231454903657293676544 * 302231454903657293676544) * (x3 * y3)+(302231454903657293676544 * 20282409603651670423947251286016) * (x3 * y4))
   + (20282409603651670423947251286016 * (x4 * y0)+(20282409603651670423947251286016 * 67108864) * (x4 * y1)+(20282409603651670423947251286016 * 4503599627370496) * (x4 * y2)+(20282409603651670423947251286016 * 302231454903657293676544) * (x4 * y3)+(20282409603651670423947251286016 * 20282409603651670423947251286016) * (x4 * y4)):=by
  rw[A2,A2,A2,A2]
  congr 1
  ·congr 1
   ·congr 1
    ·congr 1
     ·rw[Am,Am,Am,Am,AC x0,AC x0,AC x0,AC x0]
     ·rw[Am,Am,Am,Am,sc _ _ x1 y1,sc _ _ x1 y2,sc _ _ x1 y3,sc _ _ x1 y4,AG _ x1 y0]
    ·rw[Am,Am,Am,Am,sc _ _ x2 y1,sc _ _ x2 y2,sc _ _ x2 y3,sc _ _ x2 y4,AG _ x2 y0]
   ·rw[Am,Am,Am,Am,sc _ _ x3 y1,sc _ _ x3 y2,sc _ _ x3 y3,sc _ _ x3 y4,AG _ x3 y0]
  ·rw[Am,Am,Am,Am,sc _ _ x4 y1,sc _ _ x4 y2,sc _ _ x4 y3,sc _ _ x4 y4,AG _ x4 y0]
 rw[e]
 generalize x0 * y0=p00;generalize x0 * y1=p01;generalize x0 * y2=p02;generalize x0 * y3=p03;generalize x0 * y4=p04
 generalize x1 * y0=p10;generalize x1 * y1=p11;generalize x1 * y2=p12;generalize x1 * y3=p13;generalize x1 * y4=p14
 generalize x2 * y0=p20;generalize x2 * y1=p21;generalize x2 * y2=p22;generalize x2 * y3=p23;generalize x2 * y4=p24
 generalize x3 * y0=p30;generalize x3 * y1=p31;generalize x3 * y2=p32;generalize x3 * y3=p33;generalize x3 * y4=p34
 generalize x4 * y0=p40;generalize x4 * y1=p41;generalize x4 * y2=p42;generalize x4 * y3=p43;generalize x4 * y4=p44
 clear e
 omega
def leV:List UInt8→Nat
 | []=>0
 | c :: cs=>c.toNat+256 * leV cs
theorem A2l:∀ (l:List UInt8),leV l < 256 ^ l.length
 | []=>by simp[leV]
 | c :: cs=>by
  have:=A2l cs
  have hc:=c.toNat_lt
  simp only[leV,Bq,Nat.pow_succ]
  omega
theorem AA0:∀ (a b:List UInt8),leV (a++b)=leV a+256 ^ a.length * leV b
 | [],b=>by simp[leV]
 | c :: cs,b=>by
  simp only[List.cons_append,leV,AA0 cs b,Bq,Nat.pow_succ,Am]
  rw[show 256 ^ cs.length * 256 * leV b=256 * (256 ^ cs.length * leV b) by rw[Nat.mul_comm (256 ^ cs.length) 256,AG]]
  omega
theorem A0r:∀ (n:Nat),leV (Ad n 0)=0
 | 0=>rfl
 | n+1=>by simp[List.replicate_succ,leV,A0r n]
def L5 (n:Nat):List Nat:=[n % 67108864,n / 67108864 % 67108864,n / 4503599627370496 % 67108864,n / 302231454903657293676544 % 67108864,n / 20282409603651670423947251286016 % 67108864]
theorem A8y {n:Nat} (h:n < 1361129467683753853853498429727072845824):val (n % 67108864) (n / 67108864 % 67108864) (n / 4503599627370496 % 67108864) (n / 302231454903657293676544 % 67108864) (n / 20282409603651670423947251286016 % 67108864)=n:=by
 unfold val;omega
theorem A8o {a b c d e:Nat} (ha:a < 67108864) (hb:b < 67108864) (hc:c < 67108864) (hd:d < 67108864) (he:e < 67108864):L5 (val a b c d e)=[a,b,c,d,e]:=by
 unfold L5 val
 congr 1
 ·omega
 ·congr 1
  ·omega
  ·congr 1
   ·omega
   ·congr 1
    ·omega
    ·congr 1;omega
theorem BI1 {a b c d e:Nat} (ha:a < 67108864) (hb:b < 67108864) (hc:c < 67108864) (hd:d < 67108864) (he:e < 67108864):val a b c d e < 1361129467683753853853498429727072845824:=by
 unfold val;omega
theorem BN3 {x y:Nat} (hx:x < 1361129467683753853853498429727072845824) (hy:y < 1361129467683753853853498429727072845824) (h:x % PP=y % PP):(if PP≤x then x - PP else x)=(if PP≤y then y - PP else y):=by
 have e:∀ z,z < 1361129467683753853853498429727072845824→(if PP≤z then z - PP else z)=z % PP:=fun z hz=>by
  unfold PP at *
  split<;>omega
 rw[e x hx,e y hy,h]
end Go.Rf

end
section
namespace Go.Rf
set_option linter.unusedSectionVars false
variable [T:Laid]
theorem A9E (a b:Nat):(a ||| b) % 4294967296=(a % 4294967296)||| (b % 4294967296):=Nat.or_mod_two_pow (n:=32)
theorem lG {a b:Nat} (ha:a < 4294967296) (hb:b < 4294967296):a ||| b < 4294967296:=AN (n:=32) ha hb
theorem yX {a b:Nat} (ha:a < 4294967296) (hb:b < 4294967296):a ^^^ b < 4294967296:=Bk (n:=32) ha hb
theorem oR {a b:Nat} (ha:a < 4294967296):a &&& b < 4294967296:=AL Bs ha
theorem wA (a:Nat):a % 4294967296 < 4294967296:=Nat.mod_lt _ (by decide)
theorem pV {a:Nat} (n:Nat) (ha:a < 4294967296):a / n < 4294967296:=AL (Nat.div_le_self _ _) ha
def rl (s x:Nat):Nat:=(x * 2 ^ s % 4294967296)||| (x / 2 ^ (32 - s))
theorem Ae8 {s x:Nat} (hx:x < 4294967296):rl s x < 4294967296:=lG (wA _) (pV _ hx)
def rr (n x:Nat):Nat:=rl (32 - n) x
theorem mN {s x:Nat} (hx:x < 4294967296):rr s x < 4294967296:=Ae8 hx
theorem BA5 {n x:Nat} (hn:n≤32) (hx:x < 4294967296):(x / 2 ^ n ||| x * 2 ^ (32 - n)) % 4294967296=rr n x:=by
 rw[A9E,Ao (pV _ hx),Nat.or_comm]
 unfold rr rl
 rw[show 32 - (32 - n)=n by omega]
theorem BC1 {n x:Nat} (hx:x < 4294967296):(x * 2 ^ n ||| x / 2 ^ (32 - n)) % 4294967296=rl n x:=by
 rw[A9E,Ao (pV _ hx)];rfl
def g0 (x:Nat):Nat:=rr 7 x ^^^ rr 18 x ^^^ x / 2 ^ 3
def g1 (x:Nat):Nat:=rr 17 x ^^^ rr 19 x ^^^ x / 2 ^ 10
def S1 (e:Nat):Nat:=rr 6 e ^^^ rr 11 e ^^^ rr 25 e
def S0 (a:Nat):Nat:=rr 2 a ^^^ rr 13 a ^^^ rr 22 a
def ch (e f g:Nat):Nat:=(e &&& f) ^^^ ((4294967295 ^^^ e) &&& g)
def mj (a b c:Nat):Nat:=(a &&& b) ^^^ (a &&& c) ^^^ (b &&& c)
theorem BR1 {x:Nat} (h:x < 4294967296):g0 x < 4294967296:=yX (yX (mN h) (mN h)) (pV _ h)
theorem BR2 {x:Nat} (h:x < 4294967296):g1 x < 4294967296:=yX (yX (mN h) (mN h)) (pV _ h)
theorem BO7 {x:Nat} (h:x < 4294967296):S1 x < 4294967296:=yX (yX (mN h) (mN h)) (mN h)
theorem BO2 {x:Nat} (h:x < 4294967296):S0 x < 4294967296:=yX (yX (mN h) (mN h)) (mN h)
theorem BQ6 {e f g:Nat} (he:e < 4294967296):ch e f g < 4294967296:=yX (oR he) (oR (yX (by decide) he))
theorem BO1 {a b c:Nat} (ha:a < 4294967296) (hb:b < 4294967296):mj a b c < 4294967296:=yX (yX (oR ha) (oR ha)) (oR hb)
def bt (t:List UInt8) (i:Nat):Nat:=(t.getD i 0).toNat
theorem sI (t:List UInt8) (i:Nat):bt t i < 256:=Bv _
def wBE (t:List UInt8) (i:Nat):Nat:=bt t i * 2 ^ 24 ||| bt t (i+1) * 2 ^ 16 ||| bt t (i+2) * 2 ^ 8 ||| bt t (i+3)
def wLE (t:List UInt8) (i:Nat):Nat:=bt t i ||| bt t (i+1) * 2 ^ 8 ||| bt t (i+2) * 2 ^ 16 ||| bt t (i+3) * 2 ^ 24
theorem BM6 (t:List UInt8) (i:Nat):wBE t i < 4294967296:=by
 have h0:=sI t i;have h1:=sI t (i+1);have h2:=sI t (i+2);have h3:=sI t (i+3)
 exact lG (lG (lG (by omega) (by omega)) (by omega)) (by omega)
theorem BJ0 (t:List UInt8) (i:Nat):wLE t i < 4294967296:=by
 have h0:=sI t i;have h1:=sI t (i+1);have h2:=sI t (i+2);have h3:=sI t (i+3)
 exact lG (lG (lG (by omega) (by omega)) (by omega)) (by omega)
def stA (t:List UInt8) (i:Nat) (w:List Nat):List Nat:=w.set i (wBE t (4 * i))
def stB (i:Nat) (w:List Nat):List Nat:=w.set (i+16) ((w.getD i 0+g0 (w.getD (i+1) 0)+w.getD (i+9) 0+g1 (w.getD (i+14) 0)) % 4294967296)
def stC (k w:List Nat) (i:Nat) (v:List Nat):List Nat:=
 let x:=v.getD 7 0+S1 (v.getD 4 0)+ch (v.getD 4 0) (v.getD 5 0) (v.getD 6 0)+k.getD i 0+w.getD i 0
 [(x+S0 (v.getD 0 0)+mj (v.getD 0 0) (v.getD 1 0) (v.getD 2 0)) % 4294967296,v.getD 0 0,v.getD 1 0,v.getD 2 0,(v.getD 3 0+x) % 4294967296,v.getD 4 0,v.getD 5 0,v.getD 6 0]
def stD (v:List Nat) (i:Nat) (h:List Nat):List Nat:=h.set i ((h.getD i 0+v.getD i 0) % 4294967296)
def BR6 (t:List UInt8):List Nat:=xO stB 48 0 (xO (stA t) 16 0 (Ad 64 0))
def A6n (k h:List Nat) (t:List UInt8):List Nat:=xO (stD (xO (stC k (BR6 t)) 64 0 h)) 8 0 h
def A6x (k:List Nat):Nat→List Nat→List UInt8→List Nat × List UInt8
 | 0,h,t=>(h,t)
 | n+1,h,t=>if 64≤t.length then A6x k n (A6n k h t) (t.drop 64) else (h,t)
def qr (a b c d:Nat):Nat × Nat × Nat × Nat:=
 let a1:=(a+b) % 4294967296
 let d1:=rl 16 (d ^^^ a1)
 let c1:=(c+d1) % 4294967296
 let b1:=rl 12 (b ^^^ c1)
 let a2:=(a1+b1) % 4294967296
 let d2:=rl 8 (d1 ^^^ a2)
 let c2:=(c1+d2) % 4294967296
 let b2:=rl 7 (b1 ^^^ c2)
 (a2,b2,c2,d2)
theorem BQ9 {a b c d:Nat} (hb:b < 4294967296) (hd:d < 4294967296):(qr a b c d).1 < 4294967296∧(qr a b c d).2.1 < 4294967296∧(qr a b c d).2.2.1 < 4294967296∧(qr a b c d).2.2.2 < 4294967296:=by
 refine⟨wA _,Ae8 (yX (Ae8 (yX hb (wA _))) (wA _)),wA _,Ae8 (yX (Ae8 (yX hd (wA _))) (wA _))⟩
def qs (a b c d:Nat) (y:List Nat):List Nat:=
 let q:=qr (y.getD a 0) (y.getD b 0) (y.getD c 0) (y.getD d 0)
 (((y.set a q.1).set b q.2.1).set c q.2.2.1).set d q.2.2.2
def dr (y:List Nat):List Nat:=
 qs 3 4 9 14 (qs 2 7 8 13 (qs 1 6 11 12 (qs 0 5 10 15 (qs 3 7 11 15 (qs 2 6 10 14 (qs 1 5 9 13 (qs 0 4 8 12 y)))))))
theorem BQ5 {a b c d:Nat} {y:List Nat} (h:Bd 4294967296 y):Bd 4294967296 (qs a b c d y):=by
 have:=BQ9 (a:=y.getD a 0) (c:=y.getD c 0) (h.get (by decide) b) (h.get (by decide) d)
 exact (((h.set this.1).set this.2.1).set this.2.2.1).set this.2.2.2
theorem BK0 {a b c d:Nat} {y:List Nat}:(qs a b c d y).length=y.length:=by simp[qs]
def A3r:List UInt8→List UInt8→List UInt8
 | a :: xs,b :: ys=>(a ^^^ b) :: A3r xs ys
 | _,_=>[]
end Go.Rf

end
section
namespace Go.Rf.S
def ub (l:List Nat):List UInt8:=Ak Aj l
def stL (v i:Nat) (o:List Nat):List Nat:=o++[v / 2 ^ (8 * i) % 256]
def lit (v n:Nat):List Nat:=xO (stL v) n 0 []
def exC:List UInt8:=[101,120,112,97,110,100,32,51,50,45,98,121,116,101,32,107]
def chI (key nonce:List UInt8) (count:Nat):List Nat:=
 [wLE exC 0,wLE exC 4,wLE exC 8,wLE exC 12,wLE key 0,wLE key 4,wLE key 8,wLE key 12,wLE key 16,wLE key 20,wLE key 24,wLE key 28,count,wLE nonce 0,wLE nonce 4,wLE nonce 8]
def rk (k:Nat) (y:List Nat):List Nat:=xO (fun i y=>qs i (4+(i+k) % 4) (8+(i+2 * k) % 4) (12+(i+3 * k) % 4) y) 4 0 y
def r10 (y:List Nat):List Nat:=xO (fun _ y=>rk 1 (rk 0 y)) 10 0 y
def stF (x y:List Nat) (i:Nat) (o:List Nat):List Nat:=o++lit ((y.getD i 0+x.getD i 0) % 4294967296) 4
def chO (x:List Nat):List Nat:=xO (stF x (r10 x)) 16 0 []
def chB (key nonce:List UInt8) (count:Nat):List UInt8:=ub (chO (chI key nonce count))
def chX (key nonce:List UInt8):Nat→Nat→List UInt8→List UInt8
 | 0,_,_=>[]
 | n+1,count,t=>if t=[] then [] else A3r (t.take 64) (chB key nonce count)++chX key nonce n (count+1) (t.drop 64)
end Go.Rf.S

end
section
namespace Go.Rf
set_option linter.unusedSectionVars false
variable [T:Laid]
theorem dT {p:Prop} [Decidable p] (h:p):decide p=true:=Ar h
theorem dF {p:Prop} [Decidable p] (h:¬ p):decide p=false:=A3 h
theorem st : (∀ i : Nat, zA (i : Int) = true) ∧ (∀ i : Int, 0 ≤ i → zA i = true) ∧ (∀ i : Nat, An (i : Int) = i) ∧ (∀ i n : Nat, i < n → Ab i n = true) ∧ (∀ i n : Nat, i ≤ n → Au i n = true)
    ∧ (∀ n : Nat, n ≤ 1099511627776 → zX n = true) ∧ (∀ n : Int, -9223372036854775808 ≤ n → n ≤ 9223372036854775807 → Aa .i64 n = n)
    ∧ (∀ (α : Type) (a b : α), cond true a b = a) ∧ (∀ (α : Type) (a b : α), cond false a b = b) ∧ (∀ (α β : Type) (a : α) (f : α → Option β), (some a).bind f = f a)
    ∧ (∀ (α : Type) (a : α), [a].length = 1) ∧ (∀ (α : Type) (a b : List α), (a ++ b).length = a.length + b.length) ∧ (∀ a b : Int, a = b → eqI a b = true) ∧ (∀ a b : Int, a ≠ b → eqI a b = false) :=
  ⟨nn, fun i h => by simp [zA]; omega, tn, fun i n h => zT h, fun i n h => by simpa [Nat.ble_eq] using h, fun n h => wC h, fun n h1 h2 => yI h1 h2,
   fun _ _ _ => rfl, fun _ _ _ => rfl, fun _ _ _ _ => rfl, fun _ _ => rfl, fun _ _ _ => As, fun a b h => by rw [uS]; exact Ar h, fun a b h => by rw [uS]; exact A3 h⟩
theorem Aa5 {α β γ:Type} (F:List β→Int→Option γ) (v:List α) (d:α) (f:Nat→α→β) (K:List β→Option γ) (o0:List β)
  (stop:∀ o,o.length=o0.length+v.length→F o (v.length:Nat)=K o)
  (step:∀ o (i:Nat),i < v.length→o.length=o0.length+i→F o (i:Nat)=F (o++[f i (v.getD i d)]) ((i+1:Nat):Int)):F o0 0=K (o0++v.mapIdx f):=by
 have h:∀ (n i:Nat),v.length - i=n→i≤v.length→F (o0++(v.take i).mapIdx f) (i:Nat)=K (o0++v.mapIdx f):=by
  intro n
  induction n with
  | zero=>
   intro i hn hi
   have:i=v.length:=by omega
   subst this
   rw[List.take_length,stop _ (by rw[As,Bl])]
  | succ n ih=>
   intro i hn hi
   rw[step _ i (by omega) (by rw[As,Bl,A1];omega),← ih (i+1) (by omega) (by omega)]
   have hg:v[i]?=some (v.getD i d):=by rw[Al,AP (by omega)];rfl
   rw[Bn,hg,Option.toList_some,List.mapIdx_append,A1,Aq (by omega),Bo]
   simp
 have:=h v.length 0 rfl (AO _)
 simpa using this
theorem AB8 {α β γ:Type} (F:List β→Int→Option γ) (v:List α) (d:α) (g:α→List β) (K:List β→Option γ) (o0:List β) (c:Nat) (hc:∀ x ∈ v,(g x).length≤c)
  (stop:∀ o,o.length≤o0.length+v.length * c→F o (v.length:Nat)=K o)
  (step:∀ o (i:Nat),i < v.length→o.length≤o0.length+i * c→v.getD i d ∈ v→F o (i:Nat)=F (o++g (v.getD i d)) ((i+1:Nat):Int)):F o0 0=K (o0++v.flatMap g):=by
 have h:∀ (n i:Nat) (o:List β),v.length - i=n→i≤v.length→o.length≤o0.length+i * c→F o (i:Nat)=K (o++(v.drop i).flatMap g):=by
  intro n
  induction n with
  | zero=>
   intro i o hn hi ho
   have:i=v.length:=by omega
   subst this
   rw[List.drop_length,stop o ho];simp
  | succ n ih=>
   intro i o hn hi ho
   have hm:v.getD i d ∈ v:=pZ (by omega)
   have:=hc _ hm
   rw[step o i (by omega) ho hm,ih (i+1) _ (by omega) (by omega) (by rw[As,A2];omega),oM (d:=d) (show i < v.length by omega),List.flatMap_cons,Bo]
 have:=h v.length 0 o0 rfl (AO _) (by omega)
 simpa using this
theorem BJ2 {α:Type} {v r:List α} {i:Nat} {a b d:α} (h:v.drop i=a :: b :: r):i+1 < v.length∧v.getD i d=a∧v.getD (i+1) d=b∧v.drop (i+2)=r:=by
 have hl:(v.drop i).length=r.length+2:=by rw[h];rfl
 rw[AF] at hl
 have h0:=oM (d:=d) (show i < v.length by omega)
 have h1:=oM (d:=d) (show i+1 < v.length by omega)
 rw[h,h1] at h0
 injection h0 with e1 e2
 injection e2 with e2 e3
 exact⟨by omega,e1.symm,e2.symm,e3.symm⟩
theorem Aw8 {i:Nat} (h:i < 4611686018427387904):Aa .i64 ((i:Int)+2)=((i+2:Nat):Int):=by
 rw[yI (by omega) (by omega)];omega
end Go.Rf

end
section
namespace Go.Rf
abbrev TB:Type:=Int × (Int × (Int × Unit))
abbrev TR:Type:=Int × (List Int × Unit)
def inR (n a b:Int):Bool:=decide (a≤n)&&decide (n≤b)
abbrev SO1:Type:=List Int × Bool
def sN (s:SO1):Int × SO1:=match s.1 with
 | []=>(-1,s)
 | x :: l=>(x,(l,s.2))
def sC (b:Int) (s:SO1):Int × SO1:=if inR (sN s).1 0 b then sN s else (0,([],true))
def sS:Nat→SO1→List Int × SO1
 | 0,s=>([],s)
 | n+1,s=>((sN s).1 :: (sS n (sN s).2).1,(sS n (sN s).2).2)
def sR1 (s:SO1):TR × SO1:=(((sN s).1,((sS (sC 32 (sN s).2).1.toNat (sC 32 (sN s).2).2).1,())),(sS (sC 32 (sN s).2).1.toNat (sC 32 (sN s).2).2).2)
def sR:Nat→SO1→List TR × SO1
 | 0,s=>([],s)
 | n+1,s=>((sR1 s).1 :: (sR n (sR1 s).2).1,(sR n (sR1 s).2).2)
def nob:List (List TB):=Ad 15 []
end Go.Rf

end
section
namespace Go.Rf
def A8Q (l:List Int) (n:Int):Bool:=l.any fun x=>decide (x=n)
theorem A3L (a b:List Int) (n:Int):A8Q (a++b) n=(A8Q a n || A8Q b n):=List.any_append
def Arr (arr:List Bool) (seen:List Int):Prop:=arr.length=12∧∀ j:Nat,j < 12→arr.getD j false=A8Q seen (j:Int)
theorem Arr.step {arr:List Bool} {seen:List Int} (h:Arr arr seen) {n:Int} (hn:inR n 0 11=true):Arr (arr.set n.toNat true) (seen++[n]):=by
 unfold inR at hn
 simp only[Br,decide_eq_true_eq] at hn
 refine⟨by rw[Bt];exact h.1,fun j hj=>?_⟩
 rw[A3L,← h.2 j hj,show A8Q [n] (j:Int)=(decide (n=(j:Int))|| false) from rfl,Bj,Al,Al,List.getElem?_set]
 by_cases he:n.toNat=j
 ·rw[Bw he,Bw (by rw[h.1];omega),Ar (show n=(j:Int) by omega),Bool.or_true];rfl
 ·rw[if_neg he,A3 (show ¬ n=(j:Int) by omega),Bj]
end Go.Rf

end
section
namespace Go.Rf
set_option linter.unusedSectionVars false
variable [T:Laid]
open Go.RowKit
def A1S (E:Env) (c:FCfg) (f:FuncId) (ds:List Dyn) (x:c.rt.D):Prop:=
 ∀ (w:World) (S:Nat→Prop) (β:Key→Option Nat) (cs:List (List Value)),Sane w S β→sF S β w c.modes ds cs 0→AR1 E.P f (yH ds cs).toArray w (Ret c x cs w S β)
def BS7 (τ:Ty) (d:Dyn):Option (List τ.D):=oV d.t (.sl τ) d.x
def BB8 (d:Dyn):Option Int:=oV d.t (.int .i64) d.x
theorem A42 {d:Dyn} {n:Int} (h:BB8 d=some n):d=⟨.int .i64,n⟩:=by
 obtain⟨t,x⟩:=d
 obtain⟨e,h⟩:=wX h
 cases e;cases h;rfl
section
variable {E:Env} {w w':World} {S:Nat→Prop} {β:Key→Option Nat} {keep:List Nat} {mv:List (Nat × Nat)} {ms:List Mode} {ax:List (List Value)}
theorem A4b (hs:Sane w S β) (h:Below w.heap.size w w'):Sane w' S β∧Step w S β w' S β:=
 ⟨⟨hs.inj,hs.sep,fun k b hk=>Ap (hs.live k b hk) h.size,fun b hb=>Ap (hs.liveS b hb) h.size,hs.tabs fun b hb=>⟨hb,h.block b (hs.liveS b hb)⟩⟩,
  ⟨h.size,fun b hb _=>h.block b hb,fun k b hk=>.inl ⟨k,hk⟩,fun _ h=>h,fun _ h=>.inl h,⟨h.os,h.tape,h.output⟩⟩⟩
theorem Ac3 (hs:Sane w S β) (h:Below w.heap.size w w') {t:List UInt8} (hio:Ad4 S β w' ms ax 0 .unit ()):
  Ret ⟨ms,1,.pair .str .unit,.sh,keep,mv⟩ (t,()) ax w S β (.string ⟨⟨t⟩⟩) w':=by
 obtain⟨h1,h2⟩:=A4b hs h
 refine⟨S,β,[[.string ⟨⟨t⟩⟩]],h1,h2,?_,rfl,hio⟩
 simp only[oY]
 refine⟨?_,trivial⟩
 refine yO.2 ?_
 simp[Rd]
def A6c (d:Dyn):Option (List UInt8):=oV d.t .str d.x
theorem A3a {d:Dyn} {s:List UInt8} (h:A6c d=some s):d=⟨.str,s⟩:=by
 obtain⟨t,x⟩:=d
 obtain⟨e,h⟩:=wX h
 cases e;cases h;rfl
end
end Go.Rf

end
section
namespace Go.Rf
set_option linter.unusedSectionVars false
variable [T:Laid]
open Go.Shelf Go.RowKit Go.Lib Go.Proofs
section
variable {E:Env} {ρ:Ren} {w w':World} {S:Nat→Prop} {β:Key→Option Nat} {keep:List Nat} {mv:List (Nat × Nat)} {ms:List Mode} {ax:List (List Value)}
def BN8:List Dyn→Option (Ty.pair .str .unit).D
 | [a,b]=>(A6c a).bind fun s=>(BB8 b).bind fun n=>cond (decide (0≤n)&&(Ab 0 s.length&&Au (s.length * n.toNat) 1099511627776)) (some (repeatL s n.toNat,())) none
 | _=>none
theorem A7P {ds:List Dyn} {x:(Ty.pair .str .unit).D} (h:BN8 ds=some x):∃ (s:List UInt8) (n:Nat),ds=[⟨.str,s⟩,⟨.int .i64,(n:Int)⟩]∧0 < s.length∧s.length * n≤1099511627776∧x=(repeatL s n,()):=by
 unfold BN8 at h
 split at h
 ·rename_i a b
  obtain⟨s,h1,h⟩:=AB.1 h
  obtain⟨n,h2,h⟩:=AB.1 h
  rw[A3a h1,A42 h2]
  cases hb:(decide (0≤n)&&(Ab 0 s.length&&Au (s.length * n.toNat) 1099511627776)) with
  | false=>rw[hb] at h;cases h
  | true=>
   rw[hb] at h
   simp only[Br,decide_eq_true_eq,Nat.ble_eq,Nat.blt_eq] at hb
   exact⟨s,n.toNat,by rw[Int.toNat_of_nonneg hb.1],hb.2.1,hb.2.2,(Option.some.inj h).symm⟩
 ·cases h
theorem A6a {f:FuncId} {fn:Func} (L:Lays.n105 E.P ρ) (X:Builder.Extra E.P ρ) (hf:ρ.f 105=f) (hfn:E.P.funcs[f]?=some fn) (hnm:(fn.name == "runtime.NumGoroutine")=false) (hbd:fn.body.isNone=false)
  (s:List UInt8) (n:Nat) (h1:0 < s.length) (h2:s.length * n≤1099511627776):
  A1S E ⟨[.ro .str,.ro (.int .i64)],1,.pair .str .unit,.sh,keep,mv⟩ f [⟨.str,s⟩,⟨.int .i64,(n:Int)⟩] (repeatL s n,()):=by
 intro w S β cs hs ha
 match cs,ha with
 | [c1,c2],ha=>
  simp only[sF] at ha
  obtain⟨_,hv,_,hv2,_⟩:=ha
  simp only[Rd] at hv hv2
  subst hv hv2
  refine .inl ⟨fn,hfn,hnm,hbd,?_⟩
  have hn:n≤1099511627776:=by
   have:1 * n≤s.length * n:=Ay _ h1
   omega
  by_cases h0:n=0
  ·subst h0
   have hcall:=Any.strings_Repeat_zero L ⟨⟨s⟩⟩ w
   rw[hf] at hcall
   refine hcall.mono ?_
   rintro e w' ⟨rfl,rfl⟩
   have e0:repeatL s 0=[]:=by simp[repeatL]
   rw[e0]
   exact Ac3 (t:=[]) hs (Below.refl _ _) (by simp[Ad4])
  ·by_cases h1':n=1
   ·subst h1'
    have hcall:=Any.strings_Repeat_one L ⟨⟨s⟩⟩ w
    rw[hf] at hcall
    refine hcall.mono ?_
    rintro e w' ⟨rfl,rfl⟩
    have e0:repeatL s 1=s:=by simp[repeatL]
    rw[e0]
    exact Ac3 (t:=s) hs (Below.refl _ _) (by simp[Ad4])
   ·have hcall:=Any.strings_Repeat_main L X ⟨⟨s⟩⟩ n w (by omega) (by omega) (Bp h2 (by decide)) h1
    rw[hf] at hcall
    refine hcall.mono ?_
    rintro e w' ⟨rfl,hw⟩
    exact Ac3 (t:=repeatL s n) hs hw (by simp[Ad4])
 | [],ha|[_],ha=>simp[sF] at ha
 | _ :: _ :: _ :: _,ha=>simp[sF] at ha
noncomputable def okH (E:Env) (f:FuncId) (h:List Dyn→Option (E.cfg f).rt.D):List Dyn→Option (E.cfg f).rt.D:=fun ds=>
 (h ds).bind fun x=>@ite _ (A9R E f ds x) (Classical.propDecidable _) (some x) none
theorem A8z {f:FuncId} {h:List Dyn→Option (E.cfg f).rt.D} {ds:List Dyn} {x:(E.cfg f).rt.D} (e:okH E f h ds=some x):A9R E f ds x:=by
 unfold okH at e
 obtain⟨y,h1,h2⟩:=AB.1 e
 split at h2
 ·rename_i hk
  cases h2;exact hk
 ·cases h2
theorem A9L {f:FuncId} {h:List Dyn→Option (E.cfg f).rt.D} {ds:List Dyn} {x:(E.cfg f).rt.D} (e:h ds=some x) (hk:A9R E f ds x):okH E f h ds=some x:=by
 unfold okH
 rw[e]
 exact Bw hk
end
end Go.Rf

end
section
namespace Go.Rf
set_option linter.unusedSectionVars false
variable [T:Laid]
open Go.Shelf Go.RowKit Go.Lib Go.Proofs
section
variable {E:Env} {w w':World} {S:Nat→Prop} {β:Key→Option Nat} {keep:List Nat} {mv:List (Nat × Nat)} {ms:List Mode}
theorem Ab1 (hs:Sane w S β) (h:Below w.heap.size w w'):Sane w' S (fun _=>none):=
 ⟨fun _ _ _ h=>(by cases h),fun _ _ h=>(by cases h),fun _ _ h=>(by cases h),fun b hb=>Ap (hs.liveS b hb) h.size,hs.tabs fun b hb=>⟨hb,h.block b (hs.liveS b hb)⟩⟩
theorem Am0 {f:FuncId} {ds:List Dyn} {t:List UInt8} (h:A1S E ⟨ms,1,.pair .str .unit,.sh,keep,mv⟩ f ds (t,())) {cs:List (List Value)} (hs:Sane w S (fun _=>none)) (ha:sF S (fun _=>none) w ms ds cs 0)
  (he:(callFunc f (yH ds cs).toArray).run E.P w=.ok (.enter f (yH ds cs).toArray) w):
  Calls E.P f (yH ds cs).toArray w fun e w'=>e=.returned (.string ⟨⟨t⟩⟩)∧Below w.heap.size w w':=by
 rcases h w S _ cs hs ha with ⟨fn,h1,h2,h3,h4⟩| ⟨v,w',h1,_⟩
 ·refine h4.mono fun e w' he=>?_
  cases e with
  | returned v=>
   obtain⟨S',β',crs,h5,h6,h7,h8,_⟩:=he
   match crs,h7 with
   | [c],h7=>
    simp only[oY] at h7
    have h9:=yO.1 h7.1
    simp only[Rd] at h9
    subst h9
    refine⟨by rw[h8];rfl,h6.out.os,h6.out.tape,h6.out.output,h6.size,fun k hk=>h6.old k hk fun _ e=>(by cases e)⟩
   | [],h7=>simp[oY] at h7
   | _ :: _ :: _,h7=>simp[oY] at h7
  | _=>exact he.elim
 ·rw[he] at h1;cases h1
theorem Ar2 {T' e:TypeId} {B b:Nat} {bs:List Value} (h:IsBuilder T' e B b bs w) (hb:Below w.heap.size w w'):IsBuilder T' e B b bs w':=by
 have k:∀ p,BuilderAt T' e B b p bs w→BuilderAt T' e B b p bs w':=fun p h=>by
  have hl:=h.lt
  obtain⟨hB,v,h1,h2,h3⟩:=h
  exact⟨hB,v,by rw[hb.block b hl];exact h1,h2.kept (row:=none) ⟨hb.os,hb.tape,hb.output,hb.size,fun k hk _=>hb.block k hk⟩ (by cases v.ownBlock<;>simp),h3⟩
 exact h.imp (k _) (k _)
theorem Ap5 {B:Nat} (h:Below w.heap.size w w') (hB:B≤w.heap.size):Below B w w':=⟨h.os,h.tape,h.output,h.size,fun k hk=>h.block k (Ap hk hB)⟩
end
end Go.Rf

end
section
namespace Go.Proofs
open Go.Shelf Go.RowKit
def Tryz.laysRep_ren:Go.Shelf.Ren:=⟨fun|105=>311|212=>345|99=>346|165=>347|166=>320|170=>348|169=>323|263=>368|264=>369|206=>370|240=>353|241=>371|276=>378|277=>380|n=>n,fun|9=>9|3=>3|4=>4|20=>20|0=>0|46=>161|109=>321|5=>5|72=>298|76=>301|51=>288|146=>338|53=>329|148=>340|70=>296|37=>94|75=>300|127=>328|164=>348|80=>150|n=>n,fun|n=>n⟩
theorem Tryz.laysRep:Go.Proofs.Lays.n105 A4 Tryz.laysRep_ren:={
 mixed:=by kernel_rfl
 f99:=Tryz.func346.trans (Aw some (by kernel_rfl))
 f105:=Tryz.func311.trans (Aw some (by kernel_rfl))
 f165:=Tryz.func347.trans (Aw some (by kernel_rfl))
 f166:=Tryz.func320.trans (Aw some (by kernel_rfl))
 f169:=Tryz.func323.trans (Aw some (by kernel_rfl))
 f170:=Tryz.func348.trans (Aw some (by kernel_rfl))
 f206:=Tryz.func370.trans (Aw some (by kernel_rfl))
 f212:=Tryz.func345.trans (Aw some (by kernel_rfl))
 f240:=Tryz.func353.trans (Aw some (by kernel_rfl))
 f241:=Tryz.func371.trans (Aw some (by kernel_rfl))
 f263:=Tryz.func368.trans (Aw some (by kernel_rfl))
 f264:=Tryz.func369.trans (Aw some (by kernel_rfl))
 f276:=Tryz.func378.trans (Aw some (by kernel_rfl))
 f277:=Tryz.func380.trans (Aw some (by kernel_rfl))
 t0:=Tryz.underlying0
 a0:=Tryz.isAgg0
 z0:=Tryz.sizeOf0
 v0:=Tryz.zeroValue0
 t3:=Tryz.underlying3
 a3:=Tryz.isAgg3
 z3:=Tryz.sizeOf3
 v3:=Tryz.zeroValue3
 t4:=Tryz.underlying4
 a4:=Tryz.isAgg4
 z4:=Tryz.sizeOf4
 v4:=Tryz.zeroValue4
 t5:=Tryz.underlying5
 a5:=Tryz.isAgg5
 z5:=Tryz.sizeOf5
 v5:=Tryz.zeroValue5
 t9:=Tryz.underlying9
 a9:=Tryz.isAgg9
 z9:=Tryz.sizeOf9
 v9:=Tryz.zeroValue9
 t20:=Tryz.underlying20
 a20:=Tryz.isAgg20
 z20:=Tryz.sizeOf20
 v20:=Tryz.zeroValue20
 t37:=Tryz.underlying94
 a37:=Tryz.isAgg94
 z37:=Tryz.sizeOf94
 v37:=Tryz.zeroValue94
 t46:=Tryz.underlying161
 a46:=Tryz.isAgg161
 z46:=Tryz.sizeOf161
 v46:=Tryz.zeroValue161
 t51:=Tryz.underlying288
 a51:=Tryz.isAgg288
 z51:=Tryz.sizeOf288
 v51:=Tryz.zeroValue288
 t53:=Tryz.underlying329
 a53:=Tryz.isAgg329
 z53:=Tryz.sizeOf329
 v53:=Tryz.zeroValue329
 t70:=Tryz.underlying296
 a70:=Tryz.isAgg296
 z70:=Tryz.sizeOf296
 v70:=Tryz.zeroValue296
 t72:=Tryz.underlying298
 a72:=Tryz.isAgg298
 z72:=Tryz.sizeOf298
 v72:=Tryz.zeroValue298
 t75:=Tryz.underlying300
 a75:=Tryz.isAgg300
 z75:=Tryz.sizeOf300
 v75:=Tryz.zeroValue300
 t76:=Tryz.underlying301
 a76:=Tryz.isAgg301
 z76:=Tryz.sizeOf301
 v76:=Tryz.zeroValue301
 t109:=Tryz.underlying321
 a109:=Tryz.isAgg321
 z109:=Tryz.sizeOf321
 v109:=Tryz.zeroValue321
 t127:=Tryz.underlying328
 a127:=Tryz.isAgg328
 z127:=Tryz.sizeOf328
 v127:=Tryz.zeroValue328
 t146:=Tryz.underlying338
 a146:=Tryz.isAgg338
 z146:=Tryz.sizeOf338
 v146:=Tryz.zeroValue338
 t148:=Tryz.underlying340
 a148:=Tryz.isAgg340
 z148:=Tryz.sizeOf340
 v148:=Tryz.zeroValue340
 t164:=Tryz.underlying348
 a164:=Tryz.isAgg348
 z164:=Tryz.sizeOf348
 v164:=Tryz.zeroValue348 }
theorem Tryz.extra:Builder.Extra A4 Tryz.laysRep_ren:={
 sizeBuilder:=by kernel_rfl
 liesBuilder:=by kernel_rfl
 t5:=Tryz.laysRep.t5
 a5:=Tryz.laysRep.a5
 z5:=Tryz.laysRep.z5
 v5:=Tryz.laysRep.v5
 infoByte:=by kernel_rfl
 cellsByte:=by kernel_rfl
 sizeByte:=by kernel_rfl
 neB5:=by decide }
end Go.Proofs

end
section
namespace Go.Rf
set_option linter.unusedSectionVars false
variable [T:Laid]
open Go.Shelf Go.RowKit Go.Lib Go.Proofs
section
variable {E:Env} {w w':World} {S:Nat→Prop} {β:Key→Option Nat} {keep keep':List Nat} {mv mv':List (Nat × Nat)} {ms:List Mode}
theorem AX7 (t:List UInt8):strCells ⟨⟨t⟩⟩=Lib.byteCells t:=by simp[strCells,Lib.byteCells]
theorem A9S (a b:List UInt8):Lib.byteCells a++Lib.byteCells b=Lib.byteCells (a++b):=by simp[Lib.byteCells]
set_option maxHeartbeats 6400000 in
set_option maxRecDepth 100000 in
theorem A1Q (hE:E.P=A4) (lt:Int→List UInt8) (l:List Int) (hl:(l.flatMap lt).length≤1048576) (hn:l.length≤1048576)
  (hlt:∀ x ∈ l,A1S E ⟨[.ro (.int .i64),.ro (.int .i64)],1,.pair .str .unit,.sh,keep,mv⟩ 139 [⟨.int .i64,x⟩,⟨.int .i64,(4:Int)⟩] (lt x,())):
  A1S E ⟨[.ro (.sl (.int .i64))],1,.pair .str .unit,.sh,keep',mv'⟩ 275 [⟨.sl (.int .i64),l⟩] (l.flatMap lt,()):=by
 intro w S β cs hs ha
 match cs,ha with
 | [c1],ha=>
  simp only[sF] at ha
  obtain⟨_,hv,_⟩:=ha
  simp only[Rd] at hv
  obtain⟨ad,cap,rfl,hcap,hel⟩:=hv
  have hcell:∀ i (x:Int),l[i]?=some x→∃ b o,ad=some ⟨b,o,none⟩∧b < w.heap.size∧w.cell? ⟨b,o+i,none⟩=some (.int .i64 x):=fun i x hx=>by
   have hi:=(List.getElem?_eq_some_iff.1 hx).1
   rcases hel with rfl|⟨b,o,cs,rfl,hS,⟨e,fz,hb⟩,hsz,hel⟩
   ·exact absurd hi (Nat.not_lt_zero _)
   ·have h1:=hel i x hx
    have hs1:(Ty.int IntKind.i64).size=1:=rfl
    rw[hs1] at h1 hsz
    refine⟨b,o,rfl,hs.liveS b hS,?_⟩
    have e2:w.cell? ⟨b,o+i,none⟩=cs[o+i]?:=Lib.cell_of_heap hb (o+i)
    have e3:cs[o+i]?=some (.int .i64 x):=by
     have h2:=Aw (fun l:List Value=>l[0]?) h1
     simp only[win,AA,AM] at h2
     simpa using h2
    exact e2.trans e3
  rw[hE]
  refine .inl ⟨Tryz.f275,Tryz.func275,by kernel_rfl,by kernel_rfl,?_⟩
  show Calls A4 275 #[.slice ad l.length cap] w _
  have hlit:∀ (x:Int),x ∈ l→∀ wr,Below w.heap.size w wr→Calls A4 139 #[.int .i64 x,.int .i64 4] wr fun e w'=>e=.returned (.string ⟨⟨lt x⟩⟩)∧Below wr.heap.size wr w':=fun x hx wr hb=>by
   have:=Am0 (cs:=[[.int .i64 x],[.int .i64 4]]) (hlt x hx) (Ab1 hs hb) ⟨rfl,by simp only[Rd],rfl,by simp only[Rd],trivial⟩ (by rw[hE];exact enters_of Tryz.func139 (by kernel_rfl) rfl _ _)
   rw[hE] at this
   exact this
  go_enter Tryz.func275,Tryz.ntmps275
  go_wp2
  go_loopw [8] (fun i wr=>∃ k:Nat,k≤l.length∧i=.int .i64 k∧Lib.IsBuilder 298 5 w.heap.size w.heap.size (Lib.byteCells ((l.take k).flatMap lt)) wr∧Below w.heap.size w wr)
   (fun i _=>l.length - (RowKit.intOf i).toNat)
  case atStart=>exact⟨0,AO _,rfl,Lib.fresh_isBuilder 298 5 w,(Below.refl _ w).alloc (AT _) _⟩
  case round=>
   obtain⟨k,hk,rfl,hI,hnx⟩:=hrel
   by_cases hp:k < l.length
   ·have hx:l[k]?=some l[k]:=AP hp
    obtain⟨b,o,rfl,hb,hcl⟩:=hcell k _ hx
    have hcl':wr.cell? ⟨b,o+k,none⟩=some (.int .i64 l[k]):=by rw[hnx.cell (p:=⟨b,o+k,none⟩) hb];exact hcl
    have hmem:l[k] ∈ l:=List.getElem_mem hp
    have htk:(l.take (k+1)).flatMap lt=(l.take k).flatMap lt++lt l[k]:=by rw[Bn,hx,AU];simp
    have hln:((l.take (k+1)).flatMap lt).length≤1048576:=by
     have:=List.take_append_drop (k+1) l
     have h2:(l.flatMap lt).length=((l.take (k+1)).flatMap lt).length+((l.drop (k+1)).flatMap lt).length:=by rw[← As,← AU,this]
     omega
    go_wp2_with (go_at_call 139;refine (hlit _ hmem wr hnx).mono ?_;rintro e W1 ⟨rfl,hb1⟩)
    have hI1:=Ar2 hI hb1
    go_wp2_with (go_at_call 320;refine (Any.Builder_WriteString { Tryz.laysRep with } Tryz.extra w.heap.size w.heap.size _ ⟨⟨lt l[k]⟩⟩ W1 hI1 ?c1 (Bp hnx.size hb1.size)).mono ?_)
    case c1=>
     rw[htk,As] at hln
     show _+(lt l[k]).length≤_
     simp only[Lib.byteCells,AQ]
     omega
    rintro e W2 ⟨rfl,hI2,hb2⟩
    rw[AX7,A9S,← htk] at hI2
    go_wp2
    go_roundw
    case rel=>exact⟨k+1,by omega,by go_num,.inr hI2,(hnx.trans (Ap5 hb1 hnx.size)).trans hb2⟩
    case measure=>simp[RowKit.intOf];omega
   ·have:l.take k=l:=List.take_of_length_le (by omega)
    rw[this] at hI
    go_wp2_with (go_at_call 323;refine (Any.Builder_String_any { Tryz.laysRep with } Tryz.extra w.heap.size w.heap.size _ wr hI hnx.size).mono ?_)
    rintro e W2 ⟨rfl,hb2⟩
    go_wp2
    go_ret
    exact Ac3 (t:=l.flatMap lt) hs (hnx.trans hb2) (by simp[Ad4])
 | [],ha=>simp[sF] at ha
 | _ :: _ :: _,ha=>simp[sF] at ha
def A49 (x:List UInt8→List UInt8→List UInt8) (bl:Nat→List UInt8) (count:Nat) (t:List UInt8):Nat→List UInt8
 | 0=>[]
 | k+1=>A49 x bl count t k++x ((t.drop (64 * k)).take 64) (bl (count+k))
set_option maxHeartbeats 6400000 in
set_option maxRecDepth 100000 in
theorem A5A {k1 k2:List Nat} {m1 m2:List (Nat × Nat)} (hE:E.P=A4) (x:List UInt8→List UInt8→List UInt8) (bl:Nat→List UInt8) (key nonce t:List UInt8) (count:Nat) (ht:t.length≤1048576) (hc:count≤1000000)
  (hst:∀ c:Nat,c≤2000000→A1S E ⟨[.ro .str,.ro .str,.ro (.int .i64)],1,.pair .str .unit,.sh,k1,m1⟩ 322 [⟨.str,key⟩,⟨.str,nonce⟩,⟨.int .i64,(c:Int)⟩] (bl c,()))
  (hx:∀ (a:List UInt8) (c:Nat),c≤2000000→a.length≤64→A1S E ⟨[.ro .str,.ro .str],1,.pair .str .unit,.sh,k2,m2⟩ 321 [⟨.str,a⟩,⟨.str,bl c⟩] (x a (bl c),()))
  (hxl:∀ (a:List UInt8) (c:Nat),c≤2000000→a.length≤64→(x a (bl c)).length≤64):
  A1S E ⟨[.ro .str,.ro .str,.ro (.int .i64),.ro .str],1,.pair .str .unit,.sh,keep',mv'⟩ 273 [⟨.str,key⟩,⟨.str,nonce⟩,⟨.int .i64,(count:Int)⟩,⟨.str,t⟩] (A49 x bl count t ((t.length+63) / 64),()):=by
 intro w S β cs hs ha
 match cs,ha with
 | [c1,c2,c3,c4],ha=>
  simp only[sF] at ha
  obtain⟨_,v1,_,v2,_,v3,_,v4,_⟩:=ha
  simp only[Rd] at v1 v2 v3 v4
  subst v1 v2 v3 v4
  rw[hE]
  refine .inl ⟨Tryz.f273,Tryz.func273,by kernel_rfl,by kernel_rfl,?_⟩
  show Calls A4 273 #[.string ⟨⟨key⟩⟩,.string ⟨⟨nonce⟩⟩,.int .i64 count,.string ⟨⟨t⟩⟩] w _
  have hs1:∀ (c:Nat),c≤2000000→∀ wr,Below w.heap.size w wr→Calls A4 322 #[.string ⟨⟨key⟩⟩,.string ⟨⟨nonce⟩⟩,.int .i64 c] wr fun e w'=>e=.returned (.string ⟨⟨bl c⟩⟩)∧Below wr.heap.size wr w':=fun c hc wr hb=>by
   have:=Am0 (cs:=[[.string ⟨⟨key⟩⟩],[.string ⟨⟨nonce⟩⟩],[.int .i64 c]]) (hst c hc) (Ab1 hs hb) ⟨rfl,by simp only[Rd],rfl,by simp only[Rd],rfl,by simp only[Rd],trivial⟩ (by rw[hE];exact enters_of Tryz.func322 (by kernel_rfl) rfl _ _)
   rw[hE] at this
   exact this
  have hs2:∀ (a:List UInt8) (c:Nat),c≤2000000→a.length≤64→∀ wr,Below w.heap.size w wr→Calls A4 321 #[.string ⟨⟨a⟩⟩,.string ⟨⟨bl c⟩⟩] wr fun e w'=>e=.returned (.string ⟨⟨x a (bl c)⟩⟩)∧Below wr.heap.size wr w':=fun a c hc hl wr hb=>by
   have:=Am0 (cs:=[[.string ⟨⟨a⟩⟩],[.string ⟨⟨bl c⟩⟩]]) (hx a c hc hl) (Ab1 hs hb) ⟨rfl,by simp only[Rd],rfl,by simp only[Rd],trivial⟩ (by rw[hE];exact enters_of Tryz.func321 (by kernel_rfl) rfl _ _)
   rw[hE] at this
   exact this
  have hxc:∀ k,count+k≤2000000→(A49 x bl count t k).length≤64 * k:=fun k=>by
   induction k with
   | zero=>exact fun _=>AT _
   | succ k ih=>
    intro h
    have:=hxl ((t.drop (64 * k)).take 64) (count+k) (by omega) (by rw[A1];omega)
    have:=ih (by omega)
    rw[A49,As];omega
  go_enter Tryz.func273,Tryz.ntmps273
  go_wp2
  go_loopw [10] (fun i wr=>∃ k:Nat,k≤(t.length+63) / 64∧i=.int .i64 ((64 * k:Nat):Int)∧Lib.IsBuilder 298 5 w.heap.size w.heap.size (Lib.byteCells (A49 x bl count t k)) wr∧Below w.heap.size w wr)
   (fun i _=>t.length+64 - (RowKit.intOf i).toNat)
  case atStart=>exact⟨0,AO _,rfl,Lib.fresh_isBuilder 298 5 w,(Below.refl _ w).alloc (AT _) _⟩
  case round=>
   obtain⟨k,hk,rfl,hI,hnx⟩:=hrel
   by_cases hp:64 * k < t.length
   ·have hsl:(Instr.slice 9 (.string ⟨⟨t⟩⟩) (some (.int .i64 (64 * (k:Int)))) (some (.int .i64 (min (64 * (k:Int)+64) (t.length:Int)))) none).run A4 wr=.ok (.string ⟨⟨(t.drop (64 * k)).take 64⟩⟩) wr:=by
     have hz:(⟨⟨t⟩⟩:ByteArray).size=t.length:=rfl
     rw[run_slice_string wr 9 ⟨⟨t⟩⟩ .i64 .i64 (64 * (k:Int)) (min (64 * (k:Int)+64) (t.length:Int)) (by kernel_rfl) (by omega) (by omega) (by rw[hz];omega),show (64 * (k:Int)).toNat=64 * k by omega]
     have he:=ByteArray.extract_mk t (64 * k) (min (64 * (k:Int)+64) (t.length:Int)).toNat
     have hm:((t.drop (64 * k)).take ((min (64 * (k:Int)+64) (t.length:Int)).toNat - 64 * k))=(t.drop (64 * k)).take 64:=by
      rw[AS,AS (i:=64),AF]
      congr 1;omega
     rw[hm] at he
     exact Aw (fun b=>Result.ok (Value.string b) wr) he
    have hdl:((t.drop (64 * k)).take 64).length≤64:=by rw[A1];omega
    go_wp2_with (go_at_call 322;refine (hs1 (count+k) (by omega) wr hnx).mono ?_)
    rintro e W1 ⟨rfl,hb1⟩
    have hn1:Below w.heap.size w W1:=hnx.trans (Ap5 hb1 hnx.size)
    go_wp2_with (go_at_call 321;refine (hs2 ((t.drop (64 * k)).take 64) (count+k) (by omega) hdl W1 hn1).mono ?_)
    rintro e W2 ⟨rfl,hb2⟩
    have hI2:=Ar2 (Ar2 hI hb1) hb2
    have hn2:Below w.heap.size w W2:=hn1.trans (Ap5 hb2 hn1.size)
    go_wp2_with (go_at_call 320;refine (Any.Builder_WriteString { Tryz.laysRep with } Tryz.extra w.heap.size w.heap.size _ ⟨⟨x ((t.drop (64 * k)).take 64) (bl (count+k))⟩⟩ W2 hI2 ?c1 hn2.size).mono ?_)
    case c1=>
     have:=hxl ((t.drop (64 * k)).take 64) (count+k) (by omega) hdl
     have:=hxc k (by omega)
     show _+(x ((t.drop (64 * k)).take 64) (bl (count+k))).length≤_
     simp only[Lib.byteCells,AQ]
     omega
    rintro e W3 ⟨rfl,hI3,hb3⟩
    rw[AX7,A9S] at hI3
    go_wp2
    go_roundw
    case rel=>exact⟨k+1,by omega,by go_num,.inr hI3,hn2.trans hb3⟩
    case measure=>simp[RowKit.intOf];omega
   ·have:k=(t.length+63) / 64:=by omega
    subst this
    go_wp2_with (go_at_call 323;refine (Any.Builder_String_any { Tryz.laysRep with } Tryz.extra w.heap.size w.heap.size _ wr hI hnx.size).mono ?_)
    rintro e W2 ⟨rfl,hb2⟩
    go_wp2
    go_ret
    exact Ac3 (t:=A49 x bl count t ((t.length+63) / 64)) hs (hnx.trans hb2) (by simp[Ad4])
 | [],ha|[_],ha|[_,_],ha|[_,_,_],ha=>simp[sF] at ha
 | _ :: _ :: _ :: _ :: _ :: _,ha=>simp[sF] at ha
end
end Go.Rf

end
section
namespace Go.Rf
set_option linter.unusedSectionVars false
variable [T:Laid]
open Go.Shelf Go.RowKit Go.Lib Go.Proofs Go.Maps
section
variable {E:Env} {w w':World} {S:Nat→Prop} {β:Key→Option Nat} {keep keep':List Nat} {mv mv':List (Nat × Nat)} {ms:List Mode}
def BE2 {H:Type} (D:DataW H) (seen:List Int):Prop:=IsMap D∧∀ x:Int,D.atKey (.int .i64 x) (.lit (.bool false))=.lit (.bool (A8Q seen x))
theorem BE2.put {H:Type} {D:DataW H} {seen:List Int} (h:BE2 D seen) (k:Int):BE2 (D.put (.int .i64 k) (.lit (.bool true))) (seen++[k]):=by
 refine⟨?_,fun x=>?_⟩
 ·obtain⟨es,rfl⟩:=h.1
  exact⟨_,rfl⟩
 ·rw[A3L]
  by_cases hx:x=k
  ·subst hx
   rw[atKey_put_same h.1 (by simp[WideAt.IsKeyLit])]
   simp[A8Q]
  ·rw[atKey_put_other (fun e=>hx (by cases e;rfl)),h.2 x]
   have:A8Q [k] x=false:=by simp[A8Q];exact fun e=>hx e.symm
   rw[this,Bj]
end
end Go.Rf

end
section
namespace Go.Rf
set_option linter.unusedSectionVars false
variable [T:Laid]
open Go.Shelf Go.RowKit Go.Lib Go.Proofs
section
variable {P:Program} {ρ:Ren}
end
end Go.Rf

end
section
namespace Go.Rf
set_option linter.unusedSectionVars false
variable [T:Laid]
open Go.Shelf Go.RowKit Go.Lib Go.Proofs
section
variable {P:Program} {ρ:Ren} {i0:TypeInfo} {zr:Value} {k:Nat}
end
end Go.Rf

end
section
namespace Go.Rf
set_option linter.unusedSectionVars false
variable [T:Laid]
open Go.Shelf Go.RowKit Go.Lib Go.Proofs
section
variable {P:Program} {S S':Nat→Prop} {β:Key→Option Nat} {H:Nat→Option (List Value)} {w w':World} {τ:Ty}
theorem Elems.take {ys:List τ.D} {cy:List Value} (h:Elems S w τ ys cy) {i:Nat} (hi:i≤ys.length):Elems S w τ (ys.take i) (cy.take (i * τ.size)):=by
 have hle:i * τ.size≤ys.length * τ.size:=Ay _ hi
 refine .of (by rw[A1,A1,h.len,Aq hle,Aq hi]) fun j v hv=>?_
 unfold nth at hv
 rw[AA] at hv
 split at hv
 ·rename_i hj
  have hlt:(j+1) * τ.size≤i * τ.size:=Ay _ hj
  rw[A2,Nat.one_mul] at hlt
  have e:win (cy.take (i * τ.size)) (j * τ.size) τ.size=win cy (j * τ.size) τ.size:=by
   apply AD
   intro t
   rw[rL,rL]
   split
   ·rw[AA,Bw (by omega)]
   ·rfl
  rw[e];exact h.get j v hv
 ·cases hv
theorem Elems.drop {ys:List τ.D} {cy:List Value} (h:Elems S w τ ys cy) (i:Nat):Elems S w τ (ys.drop i) (cy.drop (i * τ.size)):=by
 refine .of (by rw[AF,AF,h.len,Nat.sub_mul]) fun j v hv=>?_
 unfold nth at hv
 rw[AM] at hv
 have:=h.get (i+j) v hv
 have e:win (cy.drop (i * τ.size)) (j * τ.size) τ.size=win cy ((i+j) * τ.size) τ.size:=by
  apply AD
  intro t
  rw[rL,rL,AM,A2,Nat.add_assoc]
 rw[e];exact this
theorem Elems.append {xs ys:List τ.D} {cx cy:List Value} (hx:Elems S w τ xs cx) (hy:Elems S w τ ys cy):Elems S w τ (xs++ys:List τ.D) (cx++cy):=by
 refine .of (by rw[As,As,hx.len,hy.len,A2]) fun j v hv=>?_
 rcases eD hv with ⟨h1,h2⟩| ⟨h1,h2⟩
 ·have hlt:(j+1) * τ.size≤xs.length * τ.size:=Ay _ h1
  rw[A2,Nat.one_mul] at hlt
  have e:win (cx++cy) (j * τ.size) τ.size=win cx (j * τ.size) τ.size:=by
   apply AD
   intro t
   rw[rL,rL]
   split
   ·rw[List.getElem?_append_left (by rw[hx.len];omega)]
   ·rfl
  rw[e];exact hx.get j v h2
 ·have hle:xs.length * τ.size≤j * τ.size:=Ay _ h1
  have e:win (cx++cy) (j * τ.size) τ.size=win cy ((j - xs.length) * τ.size) τ.size:=by
   apply AD
   intro t
   rw[rL,rL,List.getElem?_append_right (by rw[hx.len];omega),hx.len,Nat.sub_mul]
   split
   ·congr 1;omega
   ·rfl
  rw[e];exact hy.get _ v h2
end
section
variable {E:Env} {ρ:Ren} {i0:TypeInfo} {zr:Value} {τ:Ty}
end
section
variable {E:Env} {ρ:Ren} {i0:TypeInfo} {zr:Value} {τ:Ty} {w w':World} {S:Nat→Prop} {β:Key→Option Nat} {keep:List Nat} {mv:List (Nat × Nat)} {ms:List Mode} {ax:List (List Value)}
end
section
variable {E:Env} {ρ:Ren} {i0:TypeInfo} {zr:Value} {τ:Ty}
end
end Go.Rf

end
section
namespace Go.Rf
set_option maxRecDepth 100000
open Go.Shelf Go.RowKit Go.Lib Go.Proofs
end Go.Rf

end
section
namespace Go.Rf
set_option linter.unusedSectionVars false
variable [T:Laid]
open Go.Shelf Go.RowKit Go.Lib Go.Proofs Go.Sort
section
variable {E:Env} {w w':World} {S:Nat→Prop} {β:Key→Option Nat} {keep:List Nat} {mv:List (Nat × Nat)}
end
end Go.Rf

end
section
open Go Go.Rf
set_option maxRecDepth 100000
namespace Go.Rf.S
def mvD (l:List (Nat × Nat)) (d:List (Nat × List Nat)):List (Nat × Nat):=l++d.flatMap fun x=>x.2.map fun s=>(4000000+x.1,s)
abbrev t0:Ty:=(.pair (.int .i64) (.pair (.int .i64) (.pair (.int .i64) (.pair (.int .i64) (.pair .str (.pair .str (.pair .str .unit)))))))
abbrev t1:Ty:=(.pair (.int .i64) (.pair .str .unit))
abbrev t2:Ty:=(.pair (.sl .str) (.pair (.sl t1) .unit))
abbrev t3:Ty:=(.pair .str (.pair t0 (.pair t2 (.pair .bool (.pair .bool .unit)))))
abbrev t4:Ty:=(.pair (.int .i64) (.pair (.int .i64) .unit))
abbrev t5:Ty:=(.pair (.int .i64) (.pair (.int .i64) (.pair (.int .i64) .unit)))
abbrev t6:Ty:=(.pair (.sl t5) .unit)
abbrev t7:Ty:=(.sl (.sl t6))
abbrev t8:Ty:=(.sl (.int .i64))
abbrev t9:Ty:=(.pair (.int .i64) (.pair t8 .unit))
abbrev t10:Ty:=(.pair t3 (.pair t2 (.pair (.sl t4) (.pair t7 (.pair (.sl t9) (.pair .bool .unit))))))
abbrev t11:Ty:=(.pair t10 .unit)
abbrev t12:Ty:=(.pair .bool .unit)
abbrev t13:Ty:=(.pair (.int .i64) .unit)
abbrev t14:Ty:=(.pair t10 (.pair (.int .i64) .unit))
abbrev t15:Ty:=(.pair t8 .unit)
abbrev t16:Ty:=(.pair .str .unit)
abbrev t17:Ty:=(.sl (.sl t5))
abbrev t18:Ty:=(.pair t8 (.pair (.sl t5) (.pair t17 .unit)))
abbrev t19:Ty:=(.pair t8 (.pair t18 .unit))
abbrev t20:Ty:=(.sl (.int .u8))
abbrev t21:Ty:=(.pair t20 .unit)
abbrev t22:Ty:=(.arr 8 (.int .i64))
abbrev t23:Ty:=(.pair t22 .unit)
abbrev t24:Ty:=(.pair t22 (.pair .str (.pair (.int .i64) .unit)))
abbrev t25:Ty:=(.pair t24 .unit)
abbrev t26:Ty:=(.arr 64 (.int .i64))
abbrev t27:Ty:=(.pair t26 .unit)
abbrev t28:Ty:=(.arr 64 (.int .u32))
abbrev t29:Ty:=(.pair t28 .unit)
abbrev t30:Ty:=(.pair (.int .u32) .unit)
abbrev t31:Ty:=(.pair (.ptr t24) .unit)
abbrev t32:Ty:=(.pair (.int .u32) (.pair (.int .u32) (.pair (.int .u32) (.pair (.int .u32) .unit))))
abbrev t33:Ty:=(.arr 4 (.int .i64))
abbrev t34:Ty:=(.pair t33 .unit)
abbrev t35:Ty:=(.arr 16 (.int .i64))
abbrev t36:Ty:=(.pair t35 .unit)
abbrev t37:Ty:=(.arr 5 (.int .i64))
abbrev t38:Ty:=(.pair t37 .unit)
abbrev t39:Ty:=(.pair t2 .unit)
abbrev t40:Ty:=(.pair t3 .unit)
abbrev t41:Ty:=(.arr 5 (.int .u64))
abbrev t42:Ty:=(.pair t41 .unit)
abbrev t43:Ty:=(.pair (.sl .str) .unit)
abbrev t44:Ty:=(.pair (.sl t1) .unit)
abbrev t45:Ty:=(.pair (.int .i64) (.pair (.sl .str) .unit))
abbrev t46:Ty:=(.pair (.int .i64) (.pair (.sl t1) .unit))
abbrev t47:Ty:=(.pair (.int .i64) (.pair t2 .unit))
abbrev t48:Ty:=(.pair (.int .i64) (.pair t3 .unit))
abbrev t49:Ty:=(.pair (.int .i64) (.pair (.sl t5) .unit))
abbrev t50:Ty:=(.pair (.int .i64) (.pair (.sl t6) .unit))
abbrev t51:Ty:=(.pair t18 .unit)
abbrev t52:Ty:=(.pair t18 (.pair (.int .i64) .unit))
abbrev t53:Ty:=(.pair t19 (.pair (.int .i64) .unit))
abbrev t54:Ty:=(.pair (.sl t6) .unit)
abbrev t55:Ty:=(.sl (.sl .str))
abbrev t56:Ty:=(.pair t55 .unit)
abbrev t57:Ty:=(.pair t3 (.pair (.int .i64) .unit))
abbrev t58:Ty:=(.pair (.int .i64) (.pair (.sl t4) .unit))
abbrev t59:Ty:=(.pair (.int .i64) (.pair t7 .unit))
abbrev t60:Ty:=(.pair (.int .i64) (.pair (.sl t9) .unit))
abbrev t61:Ty:=(.pair (.int .i64) (.pair t10 .unit))
abbrev d62:Type:=(Int × (Int × (Int × (Int × (List UInt8 × (List UInt8 × (List UInt8 × Unit)))))))
abbrev d63:Type:=(Int × (List UInt8 × Unit))
abbrev d64:Type:=(List (List UInt8) × (List d63 × Unit))
abbrev d65:Type:=(List UInt8 × (d62 × (d64 × (Bool × (Bool × Unit)))))
abbrev d66:Type:=(Int × (Int × Unit))
abbrev d67:Type:=(Int × (Int × (Int × Unit)))
abbrev d68:Type:=(List d67 × Unit)
abbrev d69:Type:=(Int × (List Int × Unit))
abbrev d70:Type:=(d65 × (d64 × (List d66 × (List (List d68) × (List d69 × (Bool × Unit))))))
abbrev d71:Type:=(d70 × Unit)
abbrev d72:Type:=(Bool × Unit)
abbrev d73:Type:=(Int × Unit)
abbrev d74:Type:=(d70 × (Int × Unit))
abbrev d75:Type:=(List Int × Unit)
abbrev d76:Type:=(List UInt8 × Unit)
abbrev d77:Type:=(List Int × (List d67 × (List (List d67) × Unit)))
abbrev d78:Type:=(List Int × (d77 × Unit))
abbrev d79:Type:=(List Int × (List UInt8 × (Int × Unit)))
abbrev d80:Type:=(d79 × Unit)
abbrev d81:Type:=(Int × (Int × (Int × (Int × Unit))))
abbrev d82:Type:=(d64 × Unit)
abbrev d83:Type:=(d65 × Unit)
abbrev d84:Type:=(List (List UInt8) × Unit)
abbrev d85:Type:=(List d63 × Unit)
abbrev d86:Type:=(Int × (List (List UInt8) × Unit))
abbrev d87:Type:=(Int × (List d63 × Unit))
abbrev d88:Type:=(Int × (d64 × Unit))
abbrev d89:Type:=(Int × (d65 × Unit))
abbrev d90:Type:=(Int × (List d67 × Unit))
abbrev d91:Type:=(Int × (List d68 × Unit))
abbrev d92:Type:=(d77 × Unit)
abbrev d93:Type:=(d77 × (Int × Unit))
abbrev d94:Type:=(d78 × (Int × Unit))
abbrev d95:Type:=(List d68 × Unit)
abbrev d96:Type:=(List (List (List UInt8)) × Unit)
abbrev d97:Type:=(d65 × (Int × Unit))
abbrev d98:Type:=(Int × (List d66 × Unit))
abbrev d99:Type:=(Int × (List (List d68) × Unit))
abbrev BR4:Type:=(Int × (List d69 × Unit))
abbrev BS9:Type:=(Int × (d70 × Unit))
abbrev BP2:Ty:=(.arr 8 (.int .u32))
abbrev BS5:Ty:=(.arr 2 (.int .i64))
abbrev BS3:Ty:=(.arr 2 BS5)
abbrev A7d:Ty:=(.arr 16 (.int .u32))
noncomputable def BG8:List (Nat × FCfg):=[
(18,⟨[],1,t11,(.pr (.pr (.pr .sh (.pr .sh (.pr (.pr (.own .sh) (.pr (.own .sh) .sh)) .sh))) (.pr (.pr (.own .sh) (.pr (.own .sh) .sh)) (.pr (.own .sh) .sh))) .sh),[0,1,2,5],mvD [(6,5),(1,1),(5,5)] [(15,[5])]⟩),
(19,⟨[],1,t11,(.pr (.pr (.pr .sh (.pr .sh (.pr (.pr (.own .sh) (.pr (.own .sh) .sh)) .sh))) (.pr (.pr (.own .sh) (.pr (.own .sh) .sh)) (.pr (.own .sh) (.pr (.own (.own (.pr (.own .sh) .sh))) (.pr (.own (.pr .sh (.pr (.own .sh) .sh))) .sh))))) .sh),[0,1,2,3,5,6],mvD [(8,1),(5,5),(7,8),(7,9)] [(22,[2,3,6])]⟩),
(4,⟨[],1,t12,.sh,[0,1,2,3,4,5,11,19,22,27,32,35],[(4,0),(10,0),(12,0),(15,0),(19,0),(22,0),(21,0)]⟩),
(149,⟨[.ro (.int .i64),.ro (.int .i64),.ro (.int .i64)],1,t12,.sh,[0,1,2,6],[(1,8)]⟩),
(268,⟨[.ro (.int .i64),.ro (.ptr .fn)],1,t12,.sh,[0,1,3],[(1,4)]⟩),
(315,⟨[.ro t8,.ro .fn],1,t13,.sh,[0,1,4,5,7,8,9,16],[(7,0),(5,1)]⟩),
(267,⟨[.ro t8,.ro .fn],1,t12,.sh,[0,1,4],[(1,4)]⟩),
(204,⟨[.ro t8,.ro .fn],1,t12,.sh,[0,1,3,4],[(1,4)]⟩),
(205,⟨[.ro (.int .i64)],1,t12,.sh,[0,2],[(1,2)]⟩),
(46,⟨[.ro .str,.ro t8],1,t11,(.pr (.pr .sh (.pr .sh (.pr (.own .sh) (.pr (.own (.own .sh)) (.pr (.own (.pr .sh (.pr (.own .sh) .sh))) .sh))))) .sh),[0,1,4,5],[(2,7)]⟩),
(45,⟨[.ro t10],1,t11,(.pr (.pr (.pr .sh (.pr .sh (.pr (.pr (.own .sh) (.pr (.own .sh) .sh)) .sh))) (.pr (.pr (.own .sh) (.pr (.own .sh) .sh)) (.pr (.own .sh) .sh))) .sh),[0,1,2,3,4,5,6,25,44],mvD [(16,1),(1,4),(2,4),(3,5),(4,1),(8,7),(8,8),(8,9),(10,1),(14,15),(14,16),(14,17),(14,18)] [(24,[0,5,6,25,44]),(42,[0,3,4,25,44])]⟩),
(12,⟨[.ro .str,.ro t8],2,t14,(.pr (.pr (.pr .sh (.pr .sh (.pr (.pr (.own .sh) (.pr (.own .sh) .sh)) .sh))) (.pr (.pr (.own .sh) (.pr (.own .sh) .sh)) (.pr (.own .sh) (.pr (.own (.own (.pr (.own .sh) .sh))) (.pr (.own (.pr .sh (.pr (.own .sh) .sh))) .sh))))) .sh),[0,1,4,5,6,7,15],[(4,5),(4,6),(3,2),(3,3),(1,7),(1,8),(4,4),(3,0)]⟩),
(210,⟨[.ro t8],1,t15,(.pr (.own .sh) .sh),[900000,0,2,4],[(3,3),(2,0)]⟩),
(275,⟨[.ro t8],1,t16,.sh,[],[]⟩),
(211,⟨[.mv t8 (.own .sh),.ro (.int .i64)],1,t16,.sh,[0,1,4],[(1,7)]⟩),
(256,⟨[.ro (.sl t5)],1,t15,(.pr (.own .sh) .sh),[0,2,3,5,9,10,11,12],mvD [(7,1)] [(22,[0,2,5,12])]⟩),
(188,⟨[.ro t19,.ro (.sl t9)],1,t16,.sh,[0,1,2,4,5,7,26,27,28,29],mvD [(9,2)] [(30,[0,1,2,4,7,29])]⟩),
(189,⟨[.ro (.sl t5)],1,t16,.sh,[0,2],[(1,3)]⟩),
(263,⟨[.mv t20 (.own .sh),.ro (.int .i64)],1,t21,(.pr (.own .sh) .sh),[0,1,4],[(1,14)]⟩),
(197,⟨[.ro t8],1,t16,.sh,[0,2,3,4,9],mvD [(6,2)] [(15,[2,9])]⟩),
(266,⟨[.mv t8 (.own .sh),.ro (.int .i64)],1,t16,.sh,[0,1,4,8],mvD [(3,2)] [(5,[4,8])]⟩),
(246,⟨[.ro t19,.ro (.sl t9)],1,t16,.sh,[0,1,2,4,5,6,7,25,64],mvD [(14,2)] [(18,[0,4,7,25,64]),(50,[0,2,4,6,25,64])]⟩),
(247,⟨[.ro (.sl t5)],1,t16,.sh,[0,2,3,4,11],mvD [(6,2)] [(15,[2,11])]⟩),
(305,⟨[],1,t23,.sh,[0],[(1,1)]⟩),
(250,⟨[],1,t25,.sh,[0],[(1,2)]⟩),
(341,⟨[.ro .str,.ro (.int .i64)],1,t13,.sh,[0,1,4],[(1,25)]⟩),
(342,⟨[.ro (.int .i64),.ro (.int .i64)],1,t13,.sh,[0,1,4],[(1,9)]⟩),
(343,⟨[],1,t27,.sh,[0],[(1,1)]⟩),
(304,⟨[.ro t22,.ro .str],1,t23,.sh,[0,1,2,4,5,6,7,8,9,10,11,12,13,14,15,16,17,18,21,31,87,180],mvD [(27,1)] [(15,[0,7,8,9,10,11,12,13,14,15,16,17,18,21,31,87,180]),(50,[0,1,6,8,9,10,11,12,13,14,15,16,17,18,21,31,87,180]),(156,[0,1,6,7,8,9,13,14,15,16,17,18,21,31,87,180]),(78,[0,1,5,6,7,8,9,10,12,13,14,15,16,17,21,31,87,180])]⟩),
(249,⟨[.ro t24,.ro .str],1,t25,.sh,[0,1,2,4,19],mvD [(6,1)] [(15,[0,1,19])]⟩),
(248,⟨[.ro t24],1,t16,.sh,[0,1,2,3,4,5,6,7,8,19,24,41,45],mvD [(18,2)] [(9,[0,2,5,6,7,8,19,24,41,45]),(24,[0,2,6,7,8,19,24,41,45]),(93,[0,2,3,4,5,8,19,24,41,45]),(51,[0,2,3,4,5,19,24,41,45])]⟩),
(181,⟨[.ro .str],1,t16,.sh,[0,2],[(1,4)]⟩),
(257,⟨[],1,t25,.sh,[0],[(1,2)]⟩),
(309,⟨[],1,t29,.sh,[0],[(1,1)]⟩),
(367,⟨[.ro (.int .u32),.ro (.int .i64)],1,t30,.sh,[0,1,4,5],[(2,8)]⟩),
(344,⟨[.ro (.int .u32),.ro (.int .i64)],1,t30,.sh,[0,1,4],[(1,4)]⟩),
(310,⟨[.io (.ptr t24) (.own .sh) (.own .sh) 0 [],.ro .str,.ro (.ptr t28)],0,t31,(.pr (.own .sh) .sh),[0,1,2,6,7,8,9,10,11,12,13,14,15,16,17,18,19,20,21,22,23,24,25,26,61,104,105,106,114,115,194,195,196],mvD [] [(18,[7,8,9,10,11,12,13,14,15,16,17,18,19,20,21,22,23,24,26,61,104,105,106,114,115,194,195,196]),(38,[1,7,9,10,11,12,13,14,15,16,17,18,19,20,21,22,23,24,25,26,61,104,105,106,114,115,194,195,196]),(62,[1,7,8,9,10,12,13,14,15,16,17,18,19,20,21,22,23,24,25,26,61,106,114,115,194,195,196]),(154,[1,7,8,9,10,12,13,14,15,16,17,18,19,20,21,22,23,24,25,26,61,104,105,106,115,194,195,196]),(114,[1,2,6,7,8,9,10,11,12,13,14,15,16,17,18,19,20,21,22,23,24,25,26,61,104,105,106,114,115,196])]⟩),
(258,⟨[.ro t24,.ro .str],1,t25,.sh,[0,1,2,4,5,19],mvD [(8,1)] [(18,[0,19])]⟩),
(311,⟨[.ro .str,.ro (.int .i64)],1,t16,.sh,[],[]⟩),
(259,⟨[.ro t24],1,t16,.sh,[0,1,2,3,4,5,6,8,20,35,36,37],mvD [(13,2)] [(18,[0,2,6,8,20,35,36,37]),(46,[0,1,2,3,4,5,8,20,37])]⟩),
(190,⟨[.ro .str],1,t16,.sh,[0,2],[(1,4)]⟩),
(139,⟨[.ro (.int .i64),.ro (.int .i64)],1,t16,.sh,[0,1,4,5,6,7,8,9],mvD [(7,2)] [(22,[1,4,6,9])]⟩),
(332,⟨[.ro .str],1,t30,.sh,[0,2],[(1,18)]⟩),
(354,⟨[.ro (.int .u32),.ro (.int .u32),.ro (.int .u32),.ro (.int .u32)],4,t32,.sh,[0,1,2,3,8,9,10,11,13,16,17,18],mvD [(9,4),(9,5),(9,6),(9,7)] [(42,[8,9,10,11,13,18])]⟩),
(322,⟨[.ro .str,.ro .str,.ro (.int .i64)],1,t16,.sh,[0,1,2,6,7,8,9,10,11,12,13,14,15,16,17,25,26,41,42,43,44,46,47,95,96],mvD [(28,1)] [(35,[0,1,2,6,10,11,12,13,14,15,16,17,26,41,42,43,44,46,47,95,96]),(198,[0,1,2,6,7,10,11,12,13,14,15,16,17,25,26,42,43,44,46,47,95,96]),(153,[0,1,2,6,7,10,11,12,13,14,15,16,17,25,26,42,44,46,47,95,96]),(90,[0,1,2,6,7,10,12,13,14,15,16,17,25,26,42,44,47,95,96]),(106,[0,1,2,6,7,10,11,12,13,14,15,17,25,26,41,42,43,44,46,47,96])]⟩),
(361,⟨[.ro .str,.ro (.int .i64)],1,t13,.sh,[0,1,4],[(1,25)]⟩),
(382,⟨[.ro (.int .i64),.ro (.int .i64)],1,t13,.sh,[0,1,4],[(1,9)]⟩),
(381,⟨[.ro (.int .i64),.ro (.int .i64),.ro (.int .i64),.ro (.int .i64)],1,t34,.sh,[0,1,2,3,8],[(9,5)]⟩),
(372,⟨[.ro t35,.ro (.int .i64),.ro (.int .i64),.ro (.int .i64),.ro (.int .i64)],1,t36,.sh,[0,1,2,3,4,5,10,11],[(6,1)]⟩),
(349,⟨[.ro .str,.ro .str,.ro (.int .i64)],1,t16,.sh,[0,1,2,6,7,8,9,10,11,12,13,14,15,16,19,28,41,53,57,70,90],mvD [(32,2)] [(15,[6,9,10,11,12,13,14,15,16,19,28,41,53,57,70,90]),(27,[6,8,10,11,12,13,14,15,16,19,28,41,53,57,70,90]),(42,[0,2,6,8,9,11,12,13,14,15,16,19,28,41,53,57,70,90]),(225,[0,1,2,6,8,9,10,13,14,15,16,19,28,41,53,57,70,90]),(66,[0,1,2,6,8,9,10,14,15,16,19,28,41,53,57,70,90]),(78,[0,1,2,6,8,9,10,13,15,16,19,28,41,53,57,70,90]),(93,[0,1,2,6,8,9,10,12,13,14,19,28,41,53,57,70,90])]⟩),
(321,⟨[.ro .str,.ro .str],1,t16,.sh,[0,1,4,5,6,10,11,12],mvD [(7,2)] [(22,[0,4,6,12])]⟩),
(313,⟨[.ro .str,.ro .str,.ro (.int .i64),.ro .str],1,t16,.sh,[0,1,2,3,8,9,10,11,16,21],mvD [(9,2)] [(35,[8,16,21])]⟩),
(102,⟨[.ro (.int .i64),.ro (.int .i64),.ro (.int .i64)],1,t12,.sh,[0,1,2,6],[(1,8)]⟩),
(44,⟨[.ro t8],1,t12,.sh,[0,2,3,7,15],mvD [(6,0),(5,0)] [(18,[2,7,15])]⟩),
(312,⟨[.ro (.int .i64)],1,t16,.sh,[0,2,3,4,7],mvD [(6,2)] [(15,[2,7])]⟩),
(264,⟨[.ro (.int .i64),.ro (.int .i64),.ro (.int .i64)],1,t16,.sh,[0,1,2,6],[(1,12)]⟩),
(351,⟨[.ro .str],1,t16,.sh,[0,2,6],mvD [(3,1)] [(5,[2,6])]⟩),
(374,⟨[.ro .str],1,t16,.sh,[0,2,3,4,5,10,20],mvD [(10,2)] [(15,[0,2,5,10,20]),(27,[0,2,4,10,20])]⟩),
(373,⟨[.ro .str],1,t38,.sh,[0,2,3,4,5,6,9,36],mvD [(10,1)] [(49,[5,6,9,36])]⟩),
(377,⟨[.ro t37],1,t38,.sh,[0,1,2,3,4,6,10],mvD [(11,1)] [(63,[0,4,6,10]),(30,[0,6,10])]⟩),
(375,⟨[.ro t37,.ro t37],1,t38,.sh,[0,1,2,3,4,5,6,7,8,11,15,28],mvD [(12,2)] [(72,[0,1,7,8,11,15,28]),(57,[0,1,8,11,15,28])]⟩),
(376,⟨[.ro t37],1,t38,.sh,[0,1,2,3,4,11,32],mvD [(9,1),(11,1)] [(26,[0,11,32])]⟩),
(350,⟨[.ro .str,.ro .str],1,t16,.sh,[0,1,4,5,6,7,8,9,10,11,12,13,14,15,24,38,44,63,77],mvD [(28,2)] [(110,[4,8,9,10,11,12,13,14,15,24,38,44,63,77]),(17,[4,9,10,11,12,13,14,15,24,38,44,63,77]),(39,[4,8,11,12,13,14,15,24,38,44,63,77]),(216,[1,4,5,7,8,9,10,14,15,24,38,44,63,77])]⟩),
(314,⟨[.ro .str,.ro .str,.ro .str,.ro .str],1,t16,.sh,[0,1,2,3,8,9],[(2,15)]⟩),
(265,⟨[.ro .str,.ro .str,.ro .str,.ro .str],1,t16,.sh,[0,1,2,3,8,9],[(2,7)]⟩),
(198,⟨[.ro .str,.ro (.int .i64),.ro (.int .i64),.ro (.int .i64),.ro .str],1,t16,.sh,[0,1,2,3,4,10,11],[(2,4)]⟩),
(201,⟨[.ro t2,.ro (.int .i64),.ro .str],1,t39,(.pr (.pr .sh (.pr (.own .sh) .sh)) .sh),[0,1,2,3,6],[(2,1)]⟩),
(130,⟨[.ro t2],1,t39,(.pr (.pr (.own .sh) (.pr (.own .sh) .sh)) .sh),[0,1,2,3,4,15],mvD [(6,1)] [(15,[0,15])]⟩),
(103,⟨[.ro t2],1,t39,(.pr (.pr (.own .sh) (.pr (.own .sh) .sh)) .sh),[0,1,2],[(1,9)]⟩),
(65,⟨[.ro t3],1,t40,(.pr (.pr .sh (.pr .sh (.pr (.pr (.own .sh) (.pr (.own .sh) .sh)) .sh))) .sh),[0,1,2],[(2,1)]⟩),
(254,⟨[.ro .str,.ro (.ptr .fn)],1,t12,.sh,[0,1,3],[(1,4)]⟩),
(308,⟨[.ro (.sl .str),.ro .fn],1,t13,.sh,[0,1,4,5,7,8,9,16],[(7,0),(5,1)]⟩),
(253,⟨[.ro (.sl .str),.ro .fn],1,t12,.sh,[0,1,4],[(1,4)]⟩),
(185,⟨[.ro (.sl .str),.ro .fn],1,t12,.sh,[0,1,3,4],[(1,4)]⟩),
(209,⟨[.ro (.int .i64),.ro (.int .i64),.ro (.int .i64)],1,t16,.sh,[0,1,2,6],[(1,10)]⟩),
(273,⟨[.ro .str,.ro .str,.ro (.int .i64),.ro .str],1,t16,.sh,[],[]⟩),
(325,⟨[.ro .str],1,t16,.sh,[0,2],[(1,8)]⟩),
(356,⟨[.ro .str],1,t16,.sh,[0,2,3,4,5,10,20],mvD [(10,2)] [(15,[0,2,5,10,20]),(27,[0,2,4,10,20])]⟩),
(355,⟨[.ro .str],1,t42,.sh,[0,2,3,4,5,6,7,9,10,11,12,16,17,27],mvD [(13,1)] [(85,[0,4,5,6,7,12,16,17,27]),(57,[0,6,7,12,17,27])]⟩),
(379,⟨[.ro t41],1,t42,.sh,[0,1,2,3,4,5,6,7,8],mvD [(13,1)] [(88,[0,3,4,6,7,8]),(51,[0,4,6,8])]⟩),
(357,⟨[.ro t41,.ro t41],1,t42,.sh,[0,1,2,3,4,5,6,7],mvD [(6,2)] [(18,[0,1,5,7])]⟩),
(358,⟨[.ro t41,.ro t41],1,t42,.sh,[0,1,2,3,4,5,6,7,8,9,10,11,12,15,16,17,23],mvD [(13,2)] [(85,[0,1,2,6,7,8,9,12,15,16,17,23]),(57,[0,1,2,8,9,12,17,23])]⟩),
(359,⟨[.ro t41],1,t42,.sh,[0,1,2,3,4,5,10,19,26,28,29],mvD [(8,1),(14,1)] [(35,[0,5,10,19,26,28,29]),(50,[0,4,5,10,19,26,29])]⟩),
(360,⟨[.ro t41,.ro .str],1,t16,.sh,[0,1,2,4,5,6,7,8,9,10,13,14,15,17,18],mvD [(17,2)] [(143,[0,4,7,8,9,10,15,17,18]),(55,[0,4,9,10,15,18])]⟩),
(324,⟨[.ro .str,.ro .str],1,t16,.sh,[0,1,4,5,6,7,14],mvD [(7,5)] [(18,[4,14])]⟩),
(274,⟨[.ro .str,.ro .str,.ro .str,.ro .str],1,t16,.sh,[0,1,2,3,8],[(1,18)]⟩),
(208,⟨[.ro .str,.ro .str,.ro .str,.ro .str],1,t16,.sh,[0,1,2,3,8,9],[(2,7)]⟩),
(140,⟨[.ro .str,.ro (.int .i64),.ro (.int .i64),.ro (.int .i64),.ro .str],1,t16,.sh,[0,1,2,3,4,10],[(1,7)]⟩),
(112,⟨[.ro (.sl .str)],1,t43,(.pr (.own .sh) .sh),[900000,0,2,4],[(3,3),(2,0)]⟩),
(113,⟨[.ro (.sl t1)],1,t44,(.pr (.own .sh) .sh),[900000,0,2,4],[(3,3),(2,0)]⟩),
(48,⟨[.ro t2],1,t39,(.pr (.pr (.own .sh) (.pr (.own .sh) .sh)) .sh),[0,1,2],[(1,7)]⟩),
(73,⟨[.ro t0,.ro t0],1,t12,.sh,[0,1,2,3,4,9,14,19,24,29,34,39],[(2,0),(4,0),(6,0),(8,0),(10,0),(12,0),(15,0),(14,0)]⟩),
(114,⟨[.ro (.sl .str),.ro (.sl .str)],1,t12,.sh,[0,1,4,5,10,14,25],[(2,0),(8,0),(7,0)]⟩),
(192,⟨[.ro t1,.ro t1],1,t12,.sh,[0,1,2,3,4,9,14],[(2,0),(5,0),(4,0)]⟩),
(115,⟨[.ro (.sl t1),.ro (.sl t1)],1,t12,.sh,[0,1,4,5,10,14,26],[(2,0),(8,0),(7,0)]⟩),
(49,⟨[.ro t2,.ro t2],1,t12,.sh,[0,1,2,3,4,10,16],[(2,0),(5,0),(4,0)]⟩),
(26,⟨[.ro t3,.ro t3],1,t12,.sh,[0,1,2,3,4,9,15,21,26,31],[(2,0),(4,0),(6,0),(8,0),(11,0),(10,0)]⟩),
(212,⟨[.ro t5,.ro t5],1,t12,.sh,[0,1,2,3,4,9,14,19],[(2,0),(4,0),(7,0),(6,0)]⟩),
(146,⟨[.ro (.sl t5),.ro (.sl t5)],1,t12,.sh,[0,1,4,5,10,14,26],[(2,0),(8,0),(7,0)]⟩),
(74,⟨[.ro t6,.ro t6],1,t12,.sh,[0,1,2,3,4,10],[(3,0),(2,0)]⟩),
(27,⟨[.ro (.sl t6),.ro (.sl t6)],1,t12,.sh,[0,1,4,5,10,14,26],[(2,0),(8,0),(7,0)]⟩),
(14,⟨[.ro t8,.ro t8],1,t12,.sh,[0,1,4,5,10,14,25],[(2,0),(8,0),(7,0)]⟩),
(193,⟨[.ro (.int .i64)],1,t16,.sh,[0,2,3,5,7],[(2,0),(7,2)]⟩),
(117,⟨[.io (.sl .str) (.own .sh) (.own .sh) 0 [],.ro (.int .i64)],1,t45,(.pr .sh (.pr (.own .sh) .sh)),[0,1,4,5,9],[(6,1)]⟩),
(118,⟨[.io (.sl t1) (.own .sh) (.own .sh) 0 [],.ro (.int .i64)],1,t46,(.pr .sh (.pr (.own .sh) .sh)),[0,1,4,5,9],[(8,1)]⟩),
(52,⟨[.io t2 (.pr (.own .sh) (.pr (.own .sh) .sh)) (.pr (.own .sh) (.pr (.own .sh) .sh)) 2 [.der],.ro (.int .i64)],1,t47,(.pr .sh (.pr (.pr (.own .sh) (.pr (.own .sh) .sh)) .sh)),[0,1,2,4],[(3,1)]⟩),
(28,⟨[.io t3 (.pr .sh (.pr .sh (.pr (.pr (.own .sh) (.pr (.own .sh) .sh)) .sh))) (.pr .sh (.pr .sh (.pr (.pr (.own .sh) (.pr (.own .sh) .sh)) .sh))) 2 [.der],.ro (.int .i64)],1,t48,(.pr .sh (.pr (.pr .sh (.pr .sh (.pr (.pr (.own .sh) (.pr (.own .sh) .sh)) .sh))) .sh)),[0,1,2,4],[(2,1)]⟩),
(75,⟨[.io (.sl t5) (.own .sh) (.own .sh) 0 [],.ro (.int .i64)],1,t49,(.pr .sh (.pr (.own .sh) .sh)),[0,1,4,5,9],[(10,1)]⟩),
(29,⟨[.io (.sl t6) (.own (.pr (.own .sh) .sh)) (.own (.pr (.own .sh) .sh)) 0 [],.ro (.int .i64)],1,t50,(.pr .sh (.pr (.own (.pr (.own .sh) .sh)) .sh)),[0,1,4,5,9],[(5,1)]⟩),
(15,⟨[.io t8 (.own .sh) (.own .sh) 0 [],.ro (.int .i64)],1,t9,(.pr .sh (.pr (.own .sh) .sh)),[0,1,4,5,9],[(6,1)]⟩),
(119,⟨[.ro (.sl .str),.ro (.int .i64)],1,t13,.sh,[0,1,4,5,9,18],[(7,1),(5,0)]⟩),
(120,⟨[.ro (.sl t1),.ro (.int .i64)],1,t13,.sh,[0,1,4,5,9,18,28],[(10,1),(5,0),(8,0)]⟩),
(55,⟨[.ro t2,.ro (.int .i64)],1,t13,.sh,[0,1,2,4,10,16],[(3,0),(7,1),(6,0)]⟩),
(30,⟨[.ro t3,.ro (.int .i64)],1,t13,.sh,[0,1,2,4,10],[(4,1),(3,0)]⟩),
(278,⟨[.ro t8],1,t51,(.pr (.pr (.own .sh) (.pr (.own .sh) (.pr (.own (.own .sh)) .sh))) .sh),[0,2],[(1,6)]⟩),
(245,⟨[.ro t8],2,t52,(.pr (.pr (.own .sh) (.pr (.own .sh) (.pr (.own .sh) .sh))) .sh),[0,2,3,6,10,14],[(2,1),(2,2),(4,1),(4,2),(7,2),(7,3),(6,1),(6,2)]⟩),
(179,⟨[.ro t8],2,t53,(.pr (.pr (.own .sh) .sh) .sh),[0,2,3,4,5,8,16],[(2,1),(2,2),(6,3),(6,4),(5,2),(5,3)]⟩),
(180,⟨[.ro .str,.ro (.int .i64),.ro (.int .i64),.ro t19,.ro (.sl t9)],1,t43,(.pr (.own .sh) .sh),[0,1,2,3,4,8,10,11,12,23],mvD [(6,1)] [(15,[3,4,10,23])]⟩),
(306,⟨[.ro (.int .i64),.ro .str],1,t16,.sh,[0,1,4],[(1,7)]⟩),
(251,⟨[.ro (.sl .str)],1,t43,(.pr (.own .sh) .sh),[0,2,3,4,9],mvD [(6,1)] [(15,[2,9])]⟩),
(307,⟨[.ro .str,.ro .str],1,t16,.sh,[0,1,4],[(1,5)]⟩),
(252,⟨[.ro (.sl .str)],1,t43,(.pr (.own .sh) .sh),[0,2,3,4,10],mvD [(6,1)] [(15,[2,10])]⟩),
(182,⟨[.ro (.sl .str)],1,t16,.sh,[0,2,3,8],mvD [(4,3)] [(7,[0,2,8])]⟩),
(184,⟨[],1,t39,(.pr (.pr (.own .sh) (.pr (.own .sh) .sh)) .sh),[0],[(1,3)]⟩),
(183,⟨[.ro t2,.ro (.int .i64),.ro (.sl .str)],1,t39,.sh,[0,1,2,3,6,7,11],mvD [(5,1)] [(12,[0,11])]⟩),
(105,⟨[.ro .str,.ro t8],1,t40,(.pr (.pr .sh (.pr .sh (.pr (.pr (.own .sh) (.pr (.own .sh) .sh)) .sh))) .sh),[0,1,4,5,7,8],[(4,11)]⟩),
(104,⟨[.ro (.sl t6)],1,t54,(.pr (.own (.pr (.own .sh) .sh)) .sh),[0,2,3,4,9],mvD [(6,1)] [(15,[2,9])]⟩),
(186,⟨[.ro .str],1,t12,.sh,[0,2],[(1,3)]⟩),
(106,⟨[.ro (.sl .str)],1,t12,.sh,[0,2],[(1,2)]⟩),
(255,⟨[.ro t8],1,t13,.sh,[0,2,3,7,11],[(7,0),(2,0),(4,0),(6,0)]⟩),
(187,⟨[.ro t8],2,t52,(.pr (.pr (.own .sh) (.pr (.own .sh) (.pr (.own .sh) .sh))) .sh),[0,2,3,4,8],[(4,4),(4,5),(3,2),(3,3)]⟩),
(107,⟨[.ro t8],2,t53,(.pr (.pr (.own .sh) .sh) .sh),[0,2,3,4,5,12],[(4,3),(4,4),(3,2),(3,3)]⟩),
(108,⟨[],1,t39,(.pr (.pr (.own .sh) (.pr (.own .sh) .sh)) .sh),[0],[(1,2)]⟩),
(109,⟨[.ro .str,.ro (.int .i64),.ro t19,.ro (.sl t9),.ro (.int .i64)],1,t43,(.pr (.own .sh) .sh),[0,1,2,3,4,7,10,11,12,13,14,27,28,29,30],mvD [(8,1)] [(26,[1,2,3,7,10,13,14,30])]⟩),
(110,⟨[],1,t16,.sh,[0],[(1,1)]⟩),
(260,⟨[.ro (.int .i64),.ro .str],1,t16,.sh,[0,1,4],[(1,7)]⟩),
(261,⟨[.ro .str,.ro .str],1,t16,.sh,[0,1,4],[(1,5)]⟩),
(191,⟨[.ro (.sl .str)],1,t56,(.pr (.own .sh) .sh),[0,2,3,4,5,6,7,8,9,10,11,12,27,31],mvD [(16,1)] [(22,[0,2,4,5,6,7,8,12,27,31]),(100,[0,2,4,5,7,8,9,10,11,12,27,31]),(39,[0,2,4,5,9,10,11,12,27,31])]⟩),
(111,⟨[.ro (.sl .str)],1,t16,.sh,[0,2],[(1,6)]⟩),
(47,⟨[.ro .str,.ro t8],2,t57,(.pr (.pr .sh (.pr .sh (.pr (.pr (.own .sh) (.pr (.own .sh) .sh)) .sh))) .sh),[0,1,4,5,6,7,8,9,10,21,32],[(2,1),(2,2),(4,1),(4,2),(7,2),(7,3),(12,1),(12,2)]⟩),
(116,⟨[.ro t4,.ro t4],1,t12,.sh,[0,1,2,3,4,9,14],[(2,0),(5,0),(4,0)]⟩),
(50,⟨[.ro (.sl t4),.ro (.sl t4)],1,t12,.sh,[0,1,4,5,10,14,26],[(2,0),(8,0),(7,0)]⟩),
(51,⟨[.ro t7,.ro t7],1,t12,.sh,[0,1,4,5,10,14,26],[(2,0),(8,0),(7,0)]⟩),
(88,⟨[.ro t9,.ro t9],1,t12,.sh,[0,1,2,3,4,9,15],[(2,0),(5,0),(4,0)]⟩),
(37,⟨[.ro (.sl t9),.ro (.sl t9)],1,t12,.sh,[0,1,4,5,10,14,26],[(2,0),(8,0),(7,0)]⟩),
(13,⟨[.ro t10,.ro t10],1,t12,.sh,[0,1,2,3,4,10,16,22,28,34,39],[(2,0),(4,0),(6,0),(8,0),(10,0),(13,0),(12,0)]⟩),
(53,⟨[.io (.sl t4) (.own .sh) (.own .sh) 0 [],.ro (.int .i64)],1,t58,(.pr .sh (.pr (.own .sh) .sh)),[0,1,4,5,9],[(8,1)]⟩),
(54,⟨[.io t7 (.own (.own (.pr (.own .sh) .sh))) (.own (.own (.pr (.own .sh) .sh))) 0 [],.ro (.int .i64)],1,t59,(.pr .sh (.pr (.own (.own (.pr (.own .sh) .sh))) .sh)),[0,1,4,5,9],[(5,1)]⟩),
(38,⟨[.io (.sl t9) (.own (.pr .sh (.pr (.own .sh) .sh))) (.own (.pr .sh (.pr (.own .sh) .sh))) 0 [],.ro (.int .i64)],1,t60,(.pr .sh (.pr (.own (.pr .sh (.pr (.own .sh) .sh))) .sh)),[0,1,4,5,9],[(7,1)]⟩),
(16,⟨[.io t10 (.pr (.pr .sh (.pr .sh (.pr (.pr (.own .sh) (.pr (.own .sh) .sh)) .sh))) (.pr (.pr (.own .sh) (.pr (.own .sh) .sh)) (.pr (.own .sh) (.pr (.own (.own (.pr (.own .sh) .sh))) (.pr (.own (.pr .sh (.pr (.own .sh) .sh))) .sh))))) (.pr (.pr .sh (.pr .sh (.pr (.pr (.own .sh) (.pr (.own .sh) .sh)) .sh))) (.pr (.pr (.own .sh) (.pr (.own .sh) .sh)) (.pr (.own .sh) (.pr (.own (.own (.pr (.own .sh) .sh))) (.pr (.own (.pr .sh (.pr (.own .sh) .sh))) .sh))))) 2 [.der],.ro (.int .i64)],1,t61,(.pr .sh (.pr (.pr (.pr .sh (.pr .sh (.pr (.pr (.own .sh) (.pr (.own .sh) .sh)) .sh))) (.pr (.pr (.own .sh) (.pr (.own .sh) .sh)) (.pr (.own .sh) (.pr (.own (.own (.pr (.own .sh) .sh))) (.pr (.own (.pr .sh (.pr (.own .sh) .sh))) .sh))))) .sh)),[0,1,2,4],[(6,1)]⟩),
(56,⟨[.ro (.sl t4),.ro (.int .i64)],1,t13,.sh,[0,1,4,5,9,18,27],[(10,1),(5,0),(8,0)]⟩),
(194,⟨[.ro (.sl t5),.ro (.int .i64)],1,t13,.sh,[0,1,4,5,9,18,27,36],[(13,1),(5,0),(8,0),(11,0)]⟩),
(121,⟨[.ro (.sl t6),.ro (.int .i64)],1,t13,.sh,[0,1,4,5,9,20],[(7,1),(6,0)]⟩),
(57,⟨[.ro t7,.ro (.int .i64)],1,t13,.sh,[0,1,4,5,9,19],[(7,1),(6,0)]⟩),
(89,⟨[.ro t8,.ro (.int .i64)],1,t13,.sh,[0,1,4,5,9,17],[(7,1),(5,0)]⟩),
(39,⟨[.ro (.sl t9),.ro (.int .i64)],1,t13,.sh,[0,1,4,5,9,18,29],[(10,1),(5,0),(9,0)]⟩),
(17,⟨[.ro t10,.ro (.int .i64)],1,t13,.sh,[0,1,2,4,10,16,22,28,34],[(3,0),(6,0),(9,0),(12,0),(16,1),(15,0)]⟩),
(58,⟨[.ro (.int .i64),.ro (.int .i64)],1,t15,(.pr (.own .sh) .sh),[0,1,4,5,6,10],mvD [(7,1)] [(22,[4,10])]⟩),
(59,⟨[.ro (.int .i64),.ro (.int .i64)],1,t15,(.pr (.own .sh) .sh),[0,1,4,5,6,7,8],mvD [(7,1)] [(22,[1,4,8])]⟩)]
noncomputable def EE:Env:=⟨Go.Proofs.Tryz.prog,A1r BG8⟩
variable (R:Run EE) (L:nW)
noncomputable def oG:Option d71:=R 18 []
noncomputable def qL:Option d71:=R 19 []
noncomputable def pM:Option d72:=R 4 []
noncomputable def aV (x0 x1 x2:Int):Option d72:=R 149 [⟨(.int .i64),x0⟩,⟨(.int .i64),x1⟩,⟨(.int .i64),x2⟩]
noncomputable def lK (x0:Int) (x1:FnVal):Option d72:=R 268 [⟨(.int .i64),x0⟩,⟨(.ptr .fn),x1⟩]
noncomputable def wS (x0:List Int) (x1:FnVal):Option d73:=R 315 [⟨t8,x0⟩,⟨.fn,x1⟩]
noncomputable def xP (x0:List Int) (x1:FnVal):Option d72:=R 267 [⟨t8,x0⟩,⟨.fn,x1⟩]
noncomputable def rJ (x0:List Int) (x1:FnVal):Option d72:=R 204 [⟨t8,x0⟩,⟨.fn,x1⟩]
noncomputable def aQ (x0:Int):Option d72:=R 205 [⟨(.int .i64),x0⟩]
noncomputable def jV (x0:List UInt8) (x1:List Int):Option d71:=R 46 [⟨.str,x0⟩,⟨t8,x1⟩]
noncomputable def lC (x0:d70):Option d71:=R 45 [⟨t10,x0⟩]
noncomputable def nG (x0:List UInt8) (x1:List Int):Option d74:=R 12 [⟨.str,x0⟩,⟨t8,x1⟩]
noncomputable def wO (x0:List Int):Option d75:=R 210 [⟨t8,x0⟩]
noncomputable def aA (x0:List Int):Option d76:=R 275 [⟨t8,x0⟩]
noncomputable def pQ (x0:List Int) (x1:Int):Option d76:=R 211 [⟨t8,x0⟩,⟨(.int .i64),x1⟩]
noncomputable def oO (x0:List d67):Option d75:=R 256 [⟨(.sl t5),x0⟩]
noncomputable def jI (x0:d78) (x1:List d69):Option d76:=R 188 [⟨t19,x0⟩,⟨(.sl t9),x1⟩]
noncomputable def oF (x0:List d67):Option d76:=R 189 [⟨(.sl t5),x0⟩]
noncomputable def kM (x0:List Int) (x1:Int):Option d75:=R 263 [⟨t20,x0⟩,⟨(.int .i64),x1⟩]
noncomputable def hY (x0:List Int):Option d76:=R 197 [⟨t8,x0⟩]
noncomputable def tT (x0:List Int) (x1:Int):Option d76:=R 266 [⟨t8,x0⟩,⟨(.int .i64),x1⟩]
noncomputable def gM (x0:d78) (x1:List d69):Option d76:=R 246 [⟨t19,x0⟩,⟨(.sl t9),x1⟩]
noncomputable def mH (x0:List d67):Option d76:=R 247 [⟨(.sl t5),x0⟩]
noncomputable def aC:Option d75:=R 305 []
noncomputable def cA:Option d80:=R 250 []
noncomputable def cI (x0:List UInt8) (x1:Int):Option d73:=R 341 [⟨.str,x0⟩,⟨(.int .i64),x1⟩]
noncomputable def yC (x0 x1:Int):Option d73:=R 342 [⟨(.int .i64),x0⟩,⟨(.int .i64),x1⟩]
noncomputable def bZ:Option d75:=R 343 []
noncomputable def fC (x0:List Int) (x1:List UInt8):Option d75:=R 304 [⟨t22,x0⟩,⟨.str,x1⟩]
noncomputable def oW (x0:d79) (x1:List UInt8):Option d80:=R 249 [⟨t24,x0⟩,⟨.str,x1⟩]
noncomputable def AA9 (x0:d79):Option d76:=R 248 [⟨t24,x0⟩]
noncomputable def gB (x0:List UInt8):Option d76:=R 181 [⟨.str,x0⟩]
noncomputable def AG8:Option d80:=R 257 []
noncomputable def dC:Option d75:=R 309 []
noncomputable def yM (x0 x1:Int):Option d73:=R 367 [⟨(.int .u32),x0⟩,⟨(.int .i64),x1⟩]
noncomputable def xB (x0 x1:Int):Option d73:=R 344 [⟨(.int .u32),x0⟩,⟨(.int .i64),x1⟩]
noncomputable def qP (x0:d79) (x1:List UInt8) (x2:List Int):Option d80:=R 310 [⟨(.ptr t24),x0⟩,⟨.str,x1⟩,⟨(.ptr t28),x2⟩]
noncomputable def rY (x0:d79) (x1:List UInt8):Option d80:=R 258 [⟨t24,x0⟩,⟨.str,x1⟩]
noncomputable def qE (x0:List UInt8) (x1:Int):Option d76:=R 311 [⟨.str,x0⟩,⟨(.int .i64),x1⟩]
noncomputable def gX (x0:d79):Option d76:=R 259 [⟨t24,x0⟩]
noncomputable def lA (x0:List UInt8):Option d76:=R 190 [⟨.str,x0⟩]
noncomputable def wI (x0 x1:Int):Option d76:=R 139 [⟨(.int .i64),x0⟩,⟨(.int .i64),x1⟩]
noncomputable def lT (x0:List UInt8):Option d73:=R 332 [⟨.str,x0⟩]
noncomputable def cH (x0 x1 x2 x3:Int):Option d81:=R 354 [⟨(.int .u32),x0⟩,⟨(.int .u32),x1⟩,⟨(.int .u32),x2⟩,⟨(.int .u32),x3⟩]
noncomputable def eA (x0 x1:List UInt8) (x2:Int):Option d76:=R 322 [⟨.str,x0⟩,⟨.str,x1⟩,⟨(.int .i64),x2⟩]
noncomputable def nA (x0:List UInt8) (x1:Int):Option d73:=R 361 [⟨.str,x0⟩,⟨(.int .i64),x1⟩]
noncomputable def tU (x0 x1:Int):Option d73:=R 382 [⟨(.int .i64),x0⟩,⟨(.int .i64),x1⟩]
noncomputable def lW (x0 x1 x2 x3:Int):Option d75:=R 381 [⟨(.int .i64),x0⟩,⟨(.int .i64),x1⟩,⟨(.int .i64),x2⟩,⟨(.int .i64),x3⟩]
noncomputable def kG (x0:List Int) (x1 x2 x3 x4:Int):Option d75:=R 372 [⟨t35,x0⟩,⟨(.int .i64),x1⟩,⟨(.int .i64),x2⟩,⟨(.int .i64),x3⟩,⟨(.int .i64),x4⟩]
noncomputable def rT (x0 x1:List UInt8) (x2:Int):Option d76:=R 349 [⟨.str,x0⟩,⟨.str,x1⟩,⟨(.int .i64),x2⟩]
noncomputable def A1A (x0 x1:List UInt8):Option d76:=R 321 [⟨.str,x0⟩,⟨.str,x1⟩]
noncomputable def fO (x0 x1:List UInt8) (x2:Int) (x3:List UInt8):Option d76:=R 313 [⟨.str,x0⟩,⟨.str,x1⟩,⟨(.int .i64),x2⟩,⟨.str,x3⟩]
noncomputable def AM0 (x0 x1 x2:Int):Option d72:=R 102 [⟨(.int .i64),x0⟩,⟨(.int .i64),x1⟩,⟨(.int .i64),x2⟩]
noncomputable def jR (x0:List Int):Option d72:=R 44 [⟨t8,x0⟩]
noncomputable def nI (x0:Int):Option d76:=R 312 [⟨(.int .i64),x0⟩]
noncomputable def fF (x0 x1 x2:Int):Option d76:=R 264 [⟨(.int .i64),x0⟩,⟨(.int .i64),x1⟩,⟨(.int .i64),x2⟩]
noncomputable def eM (x0:List UInt8):Option d76:=R 351 [⟨.str,x0⟩]
noncomputable def fA (x0:List UInt8):Option d76:=R 374 [⟨.str,x0⟩]
noncomputable def nE (x0:List UInt8):Option d75:=R 373 [⟨.str,x0⟩]
noncomputable def pH (x0:List Int):Option d75:=R 377 [⟨t37,x0⟩]
noncomputable def nL (x0 x1:List Int):Option d75:=R 375 [⟨t37,x0⟩,⟨t37,x1⟩]
noncomputable def dY (x0:List Int):Option d75:=R 376 [⟨t37,x0⟩]
noncomputable def iF (x0 x1:List UInt8):Option d76:=R 350 [⟨.str,x0⟩,⟨.str,x1⟩]
noncomputable def AB7 (x0 x1 x2 x3:List UInt8):Option d76:=R 314 [⟨.str,x0⟩,⟨.str,x1⟩,⟨.str,x2⟩,⟨.str,x3⟩]
noncomputable def hZ (x0 x1 x2 x3:List UInt8):Option d76:=R 265 [⟨.str,x0⟩,⟨.str,x1⟩,⟨.str,x2⟩,⟨.str,x3⟩]
noncomputable def oT (x0:List UInt8) (x1 x2 x3:Int) (x4:List UInt8):Option d76:=R 198 [⟨.str,x0⟩,⟨(.int .i64),x1⟩,⟨(.int .i64),x2⟩,⟨(.int .i64),x3⟩,⟨.str,x4⟩]
noncomputable def nH (x0:d64) (x1:Int) (x2:List UInt8):Option d82:=R 201 [⟨t2,x0⟩,⟨(.int .i64),x1⟩,⟨.str,x2⟩]
noncomputable def eU (x0:d64):Option d82:=R 130 [⟨t2,x0⟩]
noncomputable def lL (x0:d64):Option d82:=R 103 [⟨t2,x0⟩]
noncomputable def fY (x0:d65):Option d83:=R 65 [⟨t3,x0⟩]
noncomputable def oC (x0:List UInt8) (x1:FnVal):Option d72:=R 254 [⟨.str,x0⟩,⟨(.ptr .fn),x1⟩]
noncomputable def xI (x0:List (List UInt8)) (x1:FnVal):Option d73:=R 308 [⟨(.sl .str),x0⟩,⟨.fn,x1⟩]
noncomputable def yW (x0:List (List UInt8)) (x1:FnVal):Option d72:=R 253 [⟨(.sl .str),x0⟩,⟨.fn,x1⟩]
noncomputable def sY (x0:List (List UInt8)) (x1:FnVal):Option d72:=R 185 [⟨(.sl .str),x0⟩,⟨.fn,x1⟩]
noncomputable def cD (x0 x1 x2:Int):Option d76:=R 209 [⟨(.int .i64),x0⟩,⟨(.int .i64),x1⟩,⟨(.int .i64),x2⟩]
noncomputable def AP2 (x0 x1:List UInt8) (x2:Int) (x3:List UInt8):Option d76:=R 273 [⟨.str,x0⟩,⟨.str,x1⟩,⟨(.int .i64),x2⟩,⟨.str,x3⟩]
noncomputable def fV (x0:List UInt8):Option d76:=R 325 [⟨.str,x0⟩]
noncomputable def dG (x0:List UInt8):Option d76:=R 356 [⟨.str,x0⟩]
noncomputable def lD (x0:List UInt8):Option d75:=R 355 [⟨.str,x0⟩]
noncomputable def xM (x0:List Int):Option d75:=R 379 [⟨t41,x0⟩]
noncomputable def lO (x0 x1:List Int):Option d75:=R 357 [⟨t41,x0⟩,⟨t41,x1⟩]
noncomputable def mG (x0 x1:List Int):Option d75:=R 358 [⟨t41,x0⟩,⟨t41,x1⟩]
noncomputable def pS (x0:List Int):Option d75:=R 359 [⟨t41,x0⟩]
noncomputable def nY (x0:List Int) (x1:List UInt8):Option d76:=R 360 [⟨t41,x0⟩,⟨.str,x1⟩]
noncomputable def Ac2 (x0 x1:List UInt8):Option d76:=R 324 [⟨.str,x0⟩,⟨.str,x1⟩]
noncomputable def AA6 (x0 x1 x2 x3:List UInt8):Option d76:=R 274 [⟨.str,x0⟩,⟨.str,x1⟩,⟨.str,x2⟩,⟨.str,x3⟩]
noncomputable def AJ2 (x0 x1 x2 x3:List UInt8):Option d76:=R 208 [⟨.str,x0⟩,⟨.str,x1⟩,⟨.str,x2⟩,⟨.str,x3⟩]
noncomputable def mX (x0:List UInt8) (x1 x2 x3:Int) (x4:List UInt8):Option d76:=R 140 [⟨.str,x0⟩,⟨(.int .i64),x1⟩,⟨(.int .i64),x2⟩,⟨(.int .i64),x3⟩,⟨.str,x4⟩]
noncomputable def xY (x0:List (List UInt8)):Option d84:=R 112 [⟨(.sl .str),x0⟩]
noncomputable def vO (x0:List d63):Option d85:=R 113 [⟨(.sl t1),x0⟩]
noncomputable def lZ (x0:d64):Option d82:=R 48 [⟨t2,x0⟩]
noncomputable def lR (x0 x1:d62):Option d72:=R 73 [⟨t0,x0⟩,⟨t0,x1⟩]
noncomputable def jM (x0 x1:List (List UInt8)):Option d72:=R 114 [⟨(.sl .str),x0⟩,⟨(.sl .str),x1⟩]
noncomputable def AV7 (x0 x1:d63):Option d72:=R 192 [⟨t1,x0⟩,⟨t1,x1⟩]
noncomputable def AM6 (x0 x1:List d63):Option d72:=R 115 [⟨(.sl t1),x0⟩,⟨(.sl t1),x1⟩]
noncomputable def kL (x0 x1:d64):Option d72:=R 49 [⟨t2,x0⟩,⟨t2,x1⟩]
noncomputable def eX (x0 x1:d65):Option d72:=R 26 [⟨t3,x0⟩,⟨t3,x1⟩]
noncomputable def AW5 (x0 x1:d67):Option d72:=R 212 [⟨t5,x0⟩,⟨t5,x1⟩]
noncomputable def AL9 (x0 x1:List d67):Option d72:=R 146 [⟨(.sl t5),x0⟩,⟨(.sl t5),x1⟩]
noncomputable def AK3 (x0 x1:d68):Option d72:=R 74 [⟨t6,x0⟩,⟨t6,x1⟩]
noncomputable def aX (x0 x1:List d68):Option d72:=R 27 [⟨(.sl t6),x0⟩,⟨(.sl t6),x1⟩]
noncomputable def AB9 (x0 x1:List Int):Option d72:=R 14 [⟨t8,x0⟩,⟨t8,x1⟩]
noncomputable def sP (x0:Int):Option d76:=R 193 [⟨(.int .i64),x0⟩]
noncomputable def mB (x0:List (List UInt8)) (x1:Int):Option d86:=R 117 [⟨(.sl .str),x0⟩,⟨(.int .i64),x1⟩]
noncomputable def dP (x0:List d63) (x1:Int):Option d87:=R 118 [⟨(.sl t1),x0⟩,⟨(.int .i64),x1⟩]
noncomputable def oL (x0:d64) (x1:Int):Option d88:=R 52 [⟨t2,x0⟩,⟨(.int .i64),x1⟩]
noncomputable def jS (x0:d65) (x1:Int):Option d89:=R 28 [⟨t3,x0⟩,⟨(.int .i64),x1⟩]
noncomputable def cF (x0:List d67) (x1:Int):Option d90:=R 75 [⟨(.sl t5),x0⟩,⟨(.int .i64),x1⟩]
noncomputable def gY (x0:List d68) (x1:Int):Option d91:=R 29 [⟨(.sl t6),x0⟩,⟨(.int .i64),x1⟩]
noncomputable def gQ (x0:List Int) (x1:Int):Option d69:=R 15 [⟨t8,x0⟩,⟨(.int .i64),x1⟩]
noncomputable def nO (x0:List (List UInt8)) (x1:Int):Option d73:=R 119 [⟨(.sl .str),x0⟩,⟨(.int .i64),x1⟩]
noncomputable def eT (x0:List d63) (x1:Int):Option d73:=R 120 [⟨(.sl t1),x0⟩,⟨(.int .i64),x1⟩]
noncomputable def oN (x0:d64) (x1:Int):Option d73:=R 55 [⟨t2,x0⟩,⟨(.int .i64),x1⟩]
noncomputable def jP (x0:d65) (x1:Int):Option d73:=R 30 [⟨t3,x0⟩,⟨(.int .i64),x1⟩]
noncomputable def aT (x0:List Int):Option d92:=R 278 [⟨t8,x0⟩]
noncomputable def dD (x0:List Int):Option d93:=R 245 [⟨t8,x0⟩]
noncomputable def AB5 (x0:List Int):Option d94:=R 179 [⟨t8,x0⟩]
noncomputable def gC (x0:List UInt8) (x1 x2:Int) (x3:d78) (x4:List d69):Option d84:=R 180 [⟨.str,x0⟩,⟨(.int .i64),x1⟩,⟨(.int .i64),x2⟩,⟨t19,x3⟩,⟨(.sl t9),x4⟩]
noncomputable def eR (x0:Int) (x1:List UInt8):Option d76:=R 306 [⟨(.int .i64),x0⟩,⟨.str,x1⟩]
noncomputable def jD (x0:List (List UInt8)):Option d84:=R 251 [⟨(.sl .str),x0⟩]
noncomputable def dE (x0 x1:List UInt8):Option d76:=R 307 [⟨.str,x0⟩,⟨.str,x1⟩]
noncomputable def gJ (x0:List (List UInt8)):Option d84:=R 252 [⟨(.sl .str),x0⟩]
noncomputable def eW (x0:List (List UInt8)):Option d76:=R 182 [⟨(.sl .str),x0⟩]
noncomputable def eS:Option d82:=R 184 []
noncomputable def fW (x0:d64) (x1:Int) (x2:List (List UInt8)):Option d82:=R 183 [⟨t2,x0⟩,⟨(.int .i64),x1⟩,⟨(.sl .str),x2⟩]
noncomputable def cG (x0:List UInt8) (x1:List Int):Option d83:=R 105 [⟨.str,x0⟩,⟨t8,x1⟩]
noncomputable def A4q (x0:List d68):Option d95:=R 104 [⟨(.sl t6),x0⟩]
noncomputable def fI (x0:List UInt8):Option d72:=R 186 [⟨.str,x0⟩]
noncomputable def gU (x0:List (List UInt8)):Option d72:=R 106 [⟨(.sl .str),x0⟩]
noncomputable def gI (x0:List Int):Option d73:=R 255 [⟨t8,x0⟩]
noncomputable def dB (x0:List Int):Option d93:=R 187 [⟨t8,x0⟩]
noncomputable def AA8 (x0:List Int):Option d94:=R 107 [⟨t8,x0⟩]
noncomputable def dN:Option d82:=R 108 []
noncomputable def qZ (x0:List UInt8) (x1:Int) (x2:d78) (x3:List d69) (x4:Int):Option d84:=R 109 [⟨.str,x0⟩,⟨(.int .i64),x1⟩,⟨t19,x2⟩,⟨(.sl t9),x3⟩,⟨(.int .i64),x4⟩]
noncomputable def kH:Option d76:=R 110 []
noncomputable def lS (x0:Int) (x1:List UInt8):Option d76:=R 260 [⟨(.int .i64),x0⟩,⟨.str,x1⟩]
noncomputable def AV4 (x0 x1:List UInt8):Option d76:=R 261 [⟨.str,x0⟩,⟨.str,x1⟩]
noncomputable def AW9 (x0:List (List UInt8)):Option d96:=R 191 [⟨(.sl .str),x0⟩]
noncomputable def AW4 (x0:List (List UInt8)):Option d76:=R 111 [⟨(.sl .str),x0⟩]
noncomputable def AW2 (x0:List UInt8) (x1:List Int):Option d97:=R 47 [⟨.str,x0⟩,⟨t8,x1⟩]
noncomputable def cK (x0 x1:d66):Option d72:=R 116 [⟨t4,x0⟩,⟨t4,x1⟩]
noncomputable def gN (x0 x1:List d66):Option d72:=R 50 [⟨(.sl t4),x0⟩,⟨(.sl t4),x1⟩]
noncomputable def dS (x0 x1:List (List d68)):Option d72:=R 51 [⟨t7,x0⟩,⟨t7,x1⟩]
noncomputable def gW (x0 x1:d69):Option d72:=R 88 [⟨t9,x0⟩,⟨t9,x1⟩]
noncomputable def jQ (x0 x1:List d69):Option d72:=R 37 [⟨(.sl t9),x0⟩,⟨(.sl t9),x1⟩]
noncomputable def iL (x0 x1:d70):Option d72:=R 13 [⟨t10,x0⟩,⟨t10,x1⟩]
noncomputable def lQ (x0:List d66) (x1:Int):Option d98:=R 53 [⟨(.sl t4),x0⟩,⟨(.int .i64),x1⟩]
noncomputable def jB (x0:List (List d68)) (x1:Int):Option d99:=R 54 [⟨t7,x0⟩,⟨(.int .i64),x1⟩]
noncomputable def nR (x0:List d69) (x1:Int):Option BR4:=R 38 [⟨(.sl t9),x0⟩,⟨(.int .i64),x1⟩]
noncomputable def pX (x0:d70) (x1:Int):Option BS9:=R 16 [⟨t10,x0⟩,⟨(.int .i64),x1⟩]
noncomputable def lP (x0:List d66) (x1:Int):Option d73:=R 56 [⟨(.sl t4),x0⟩,⟨(.int .i64),x1⟩]
noncomputable def eN (x0:List d67) (x1:Int):Option d73:=R 194 [⟨(.sl t5),x0⟩,⟨(.int .i64),x1⟩]
noncomputable def gZ (x0:List d68) (x1:Int):Option d73:=R 121 [⟨(.sl t6),x0⟩,⟨(.int .i64),x1⟩]
noncomputable def jT (x0:List (List d68)) (x1:Int):Option d73:=R 57 [⟨t7,x0⟩,⟨(.int .i64),x1⟩]
noncomputable def gP (x0:List Int) (x1:Int):Option d73:=R 89 [⟨t8,x0⟩,⟨(.int .i64),x1⟩]
noncomputable def nU (x0:List d69) (x1:Int):Option d73:=R 39 [⟨(.sl t9),x0⟩,⟨(.int .i64),x1⟩]
noncomputable def rZ (x0:d70) (x1:Int):Option d73:=R 17 [⟨t10,x0⟩,⟨(.int .i64),x1⟩]
noncomputable def kI (x0 x1:Int):Option d75:=R 58 [⟨(.int .i64),x0⟩,⟨(.int .i64),x1⟩]
noncomputable def bO (x0 x1:Int):Option d75:=R 59 [⟨(.int .i64),x0⟩,⟨(.int .i64),x1⟩]
noncomputable def tR (v0:d70) (v1:List Int) (v2:Int) (p:List Nat:=[1,1,0,1,0]):Option d71:=zQ EE R L 18 Go.Proofs.Tryz.f18 p (mk 18 [(0,.dat ⟨(.ptr t10),v0,(.own (.pr (.pr .sh (.pr .sh (.pr (.pr (.own .sh) (.pr (.own .sh) .sh)) .sh))) (.pr (.pr (.own .sh) (.pr (.own .sh) .sh)) (.pr (.own .sh) (.pr (.own .sh) (.pr (.own .sh) .sh))))))⟩),(1,.dat ⟨t20,v1,(.own .sh)⟩),(2,.dat ⟨(.int .i64),v2,.sh⟩)])
noncomputable def tP (v0:d70) (v1:List Int) (v5:Int) (p:List Nat:=[1,1,0,1,0]):Option d71:=zQ EE R L 19 Go.Proofs.Tryz.f19 p (mk 22 [(0,.dat ⟨(.ptr t10),v0,(.own (.pr (.pr .sh (.pr .sh (.pr (.pr (.own .sh) (.pr (.own .sh) .sh)) .sh))) (.pr (.pr (.own .sh) (.pr (.own .sh) .sh)) (.pr (.own .sh) (.pr (.own .sh) (.pr (.own .sh) .sh))))))⟩),(1,.dat ⟨t20,v1,(.own .sh)⟩),(5,.dat ⟨(.int .i64),v5,.sh⟩)])
noncomputable def vY (v0:List Int) (v1:FnVal) (v4 v7 v8:Int) (p:List Nat:=[1,0,1,0]):Option d73:=zQ EE R L 315 AV p (mk 19 [(0,.dat ⟨t8,v0,.sh⟩),(1,.dat ⟨.fn,v1,.sh⟩),(4,.dat ⟨(.int .i64),v4,.sh⟩),(7,.dat ⟨(.int .i64),v7,.sh⟩),(8,.dat ⟨(.int .i64),v8,.sh⟩)])
noncomputable def zK (v0:List Int) (v1:FnVal) (v4 v5 v7 v8:Int) (p:List Nat:=[1,0,1,0]):Option d73:=zQ EE R L 315 AV p (mk 19 [(0,.dat ⟨t8,v0,.sh⟩),(1,.dat ⟨.fn,v1,.sh⟩),(4,.dat ⟨(.int .i64),v4,.sh⟩),(5,.dat ⟨(.int .i64),v5,.sh⟩),(7,.dat ⟨(.int .i64),v7,.sh⟩),(8,.dat ⟨(.int .i64),v8,.sh⟩)])
noncomputable def jE (v1 v2:d70) (v3:List (List d68)) (v4:Int) (p:List Nat:=[1,1,1,1,1,0,1,0]):Option d71:=zQ EE R L 45 Bm p (mk 68 [(1,.dat ⟨(.ptr t10),v1,(.own (.pr (.pr .sh (.pr .sh (.pr (.pr (.own .sh) (.pr (.own .sh) .sh)) .sh))) (.pr (.pr (.own .sh) (.pr (.own .sh) .sh)) (.pr (.own .sh) .sh))))⟩),(2,.dat ⟨(.ptr t10),v2,(.own (.pr (.pr .sh (.pr .sh (.pr (.pr (.own .sh) (.pr (.own .sh) .sh)) .sh))) (.pr (.pr (.own .sh) (.pr (.own .sh) .sh)) (.pr (.own .sh) (.pr (.own .sh) (.pr (.own .sh) .sh))))))⟩),(3,.dat ⟨t7,v3,(.own (.own .sh))⟩),(4,.dat ⟨(.int .i64),v4,.sh⟩)])
noncomputable def nT (v1 v2:d70) (v5:List d69) (v6:Int) (p:List Nat:=[1,1,1,1,1,1,1,1,0,1,0]):Option d71:=zQ EE R L 45 Bm p (mk 68 [(1,.dat ⟨(.ptr t10),v1,(.own (.pr (.pr .sh (.pr .sh (.pr (.pr (.own .sh) (.pr (.own .sh) .sh)) .sh))) (.pr (.pr (.own .sh) (.pr (.own .sh) .sh)) (.pr (.own .sh) .sh))))⟩),(2,.dat ⟨(.ptr t10),v2,(.own (.pr (.pr .sh (.pr .sh (.pr (.pr (.own .sh) (.pr (.own .sh) .sh)) .sh))) (.pr (.pr (.own .sh) (.pr (.own .sh) .sh)) (.pr (.own .sh) (.pr (.own .sh) (.pr (.own .sh) .sh))))))⟩),(5,.dat ⟨(.sl t9),v5,(.own (.pr .sh (.pr (.own .sh) .sh)))⟩),(6,.dat ⟨(.int .i64),v6,.sh⟩)])
noncomputable def tO (v3:List Int) (v9:List d67) (v10 v11:Int) (p:List Nat:=[1,1,0,1,0]):Option d75:=zQ EE R L 256 Go.Proofs.Tryz.f256 p (mk 26 [(3,.dat ⟨t8,v3,(.own .sh)⟩),(9,.dat ⟨(.sl t5),v9,.sh⟩),(10,.dat ⟨(.int .i64),v10,.sh⟩),(11,.dat ⟨(.int .i64),v11,.sh⟩)])
noncomputable def sK (v5:List Int) (v26:List d69) (v27 v28:Int) (p:List Nat:=[1,1,1,1,0,1,0]):Option d76:=zQ EE R L 188 Go.Proofs.Tryz.f188 p (mk 46 [(5,.dat ⟨t8,v5,(.own .sh)⟩),(26,.dat ⟨(.sl t9),v26,.sh⟩),(27,.dat ⟨(.int .i64),v27,.sh⟩),(28,.dat ⟨(.int .i64),v28,.sh⟩)])
noncomputable def qI (v0 v3:List Int) (v4:Int) (p:List Nat:=[1,1,0,1,0]):Option d76:=zQ EE R L 197 Go.Proofs.Tryz.f197 p (mk 20 [(0,.dat ⟨t8,v0,.sh⟩),(3,.dat ⟨t20,v3,(.own .sh)⟩),(4,.dat ⟨(.int .i64),v4,.sh⟩)])
noncomputable def qJ (v0:List Int) (v1:Int) (p:List Nat:=[1,0,0]):Option d76:=zQ EE R L 266 Go.Proofs.Tryz.f266 p (mk 14 [(0,.dat ⟨t8,v0,(.own .sh)⟩),(1,.dat ⟨(.int .i64),v1,.sh⟩)])
noncomputable def rH (v1:List d69) (v2:d78) (v5:List Int) (v6:Int) (p:List Nat:=[1,1,1,0,1,0]):Option d76:=zQ EE R L 246 AW p (mk 90 [(1,.dat ⟨(.sl t9),v1,.sh⟩),(2,.dat ⟨(.ptr t19),v2,(.own .sh)⟩),(5,.dat ⟨t8,v5,(.own .sh)⟩),(6,.dat ⟨(.int .i64),v6,.sh⟩)])
noncomputable def tW (v1:List d69) (v5:List Int) (v7:Int) (p:List Nat:=[1,1,1,1,1,1,0,1,0]):Option d76:=zQ EE R L 246 AW p (mk 90 [(1,.dat ⟨(.sl t9),v1,.sh⟩),(5,.dat ⟨t8,v5,(.own .sh)⟩),(7,.dat ⟨(.int .i64),v7,.sh⟩)])
noncomputable def sM (v0:List d67) (v3:List Int) (v4:Int) (p:List Nat:=[1,1,0,1,0]):Option d76:=zQ EE R L 247 Go.Proofs.Tryz.f247 p (mk 34 [(0,.dat ⟨(.sl t5),v0,.sh⟩),(3,.dat ⟨t8,v3,(.own .sh)⟩),(4,.dat ⟨(.int .i64),v4,.sh⟩)])
noncomputable def vI (v1:List UInt8) (v2 v4 v5:List Int) (v6:Int) (p:List Nat:=[1,1,0,1,0]):Option d75:=zQ EE R L 304 A7 p (mk 194 [(1,.dat ⟨.str,v1,.sh⟩),(2,.dat ⟨(.ptr t22),v2,(.own .sh)⟩),(4,.dat ⟨(.ptr t22),v4,(.own .sh)⟩),(5,.dat ⟨(.ptr t26),v5,(.own .sh)⟩),(6,.dat ⟨(.int .i64),v6,.sh⟩)])
noncomputable def xD (v2 v4 v5:List Int) (v7:Int) (p:List Nat:=[1,1,1,0,1,0]):Option d75:=zQ EE R L 304 A7 p (mk 194 [(2,.dat ⟨(.ptr t22),v2,(.own .sh)⟩),(4,.dat ⟨(.ptr t22),v4,(.own .sh)⟩),(5,.dat ⟨(.ptr t26),v5,(.own .sh)⟩),(7,.dat ⟨(.int .i64),v7,.sh⟩)])
noncomputable def xL (v2 v4 v5 v10 v11:List Int) (v12:Int) (p:List Nat:=[1,1,1,1,1,1,0,1,0]):Option d75:=zQ EE R L 304 A7 p (mk 194 [(2,.dat ⟨(.ptr t22),v2,(.own .sh)⟩),(4,.dat ⟨(.ptr t22),v4,(.own .sh)⟩),(5,.dat ⟨(.ptr t26),v5,(.own .sh)⟩),(10,.dat ⟨(.ptr t26),v10,(.own .sh)⟩),(11,.dat ⟨(.ptr t22),v11,(.own .sh)⟩),(12,.dat ⟨(.int .i64),v12,.sh⟩)])
noncomputable def xS (v2 v4 v11:List Int) (v18:Int) (p:List Nat:=[1,1,1,1,1,1,1,0,1,0]):Option d75:=zQ EE R L 304 A7 p (mk 194 [(2,.dat ⟨(.ptr t22),v2,(.own .sh)⟩),(4,.dat ⟨(.ptr t22),v4,(.own .sh)⟩),(11,.dat ⟨(.ptr t22),v11,(.own .sh)⟩),(18,.dat ⟨(.int .i64),v18,.sh⟩)])
noncomputable def rB (v2 v4:d79) (p:List Nat:=[1,1,1,0,0]):Option d80:=zQ EE R L 249 Go.Proofs.Tryz.f249 p (mk 31 [(2,.dat ⟨(.ptr t24),v2,(.own .sh)⟩),(4,.dat ⟨(.ptr t24),v4,(.own .sh)⟩)])
noncomputable def rX (v1:d79) (v3:Int) (v4:List Int) (p:List Nat:=[1,1,1,0,0]):Option d76:=zQ EE R L 248 A8 p (mk 61 [(1,.dat ⟨(.ptr t24),v1,(.own .sh)⟩),(3,.dat ⟨(.int .i64),v3,.sh⟩),(4,.dat ⟨t20,v4,(.own .sh)⟩)])
noncomputable def wQ (v1:d79) (v3:Int) (v4:List Int) (v5:Int) (p:List Nat:=[1,1,1,1,0,1,0]):Option d76:=zQ EE R L 248 A8 p (mk 61 [(1,.dat ⟨(.ptr t24),v1,(.own .sh)⟩),(3,.dat ⟨(.int .i64),v3,.sh⟩),(4,.dat ⟨t20,v4,(.own .sh)⟩),(5,.dat ⟨(.int .i64),v5,.sh⟩)])
noncomputable def wR (v1:d79) (v6:List Int) (v7:Int) (p:List Nat:=[1,1,1,1,1,1,1,0,1,0]):Option d76:=zQ EE R L 248 A8 p (mk 61 [(1,.dat ⟨(.ptr t24),v1,(.own .sh)⟩),(6,.dat ⟨t20,v6,(.own .sh)⟩),(7,.dat ⟨(.int .i64),v7,.sh⟩)])
noncomputable def uK (v1:d79) (v6:List Int) (v7 v8:Int) (p:List Nat:=[1,1,1,1,1,1,1,0,1,0,0,1,0,0,1,0]):Option d76:=zQ EE R L 248 A8 p (mk 61 [(1,.dat ⟨(.ptr t24),v1,(.own .sh)⟩),(6,.dat ⟨t20,v6,(.own .sh)⟩),(7,.dat ⟨(.int .i64),v7,.sh⟩),(8,.dat ⟨(.int .i64),v8,.sh⟩)])
noncomputable def yR (v0:d79) (v1:List UInt8) (v2 v6:List Int) (v25:Int) (p:List Nat:=[1,0,1,0]):Option d80:=zQ EE R L 310 Az p (mk 215 [(0,.dat ⟨(.ptr t24),v0,(.pin 0 (.own .sh))⟩),(1,.dat ⟨.str,v1,.sh⟩),(2,.dat ⟨(.ptr t28),v2,.sh⟩),(6,.dat ⟨(.ptr t28),v6,(.own .sh)⟩),(25,.dat ⟨(.int .i64),v25,.sh⟩)])
noncomputable def zP (v0:d79) (v2 v6:List Int) (v8:Int) (p:List Nat:=[1,1,0,1,0]):Option d80:=zQ EE R L 310 Az p (mk 215 [(0,.dat ⟨(.ptr t24),v0,(.pin 0 (.own .sh))⟩),(2,.dat ⟨(.ptr t28),v2,.sh⟩),(6,.dat ⟨(.ptr t28),v6,(.own .sh)⟩),(8,.dat ⟨(.int .i64),v8,.sh⟩)])
noncomputable def zS (v0:d79) (v2 v6 v11 v104:List Int) (v105:Int) (p:List Nat:=[1,1,1,1,0,1,0]):Option d80:=zQ EE R L 310 Az p (mk 215 [(0,.dat ⟨(.ptr t24),v0,(.pin 0 (.own .sh))⟩),(2,.dat ⟨(.ptr t28),v2,.sh⟩),(6,.dat ⟨(.ptr t28),v6,(.own .sh)⟩),(11,.dat ⟨(.ptr BP2),v11,(.own .sh)⟩),(104,.dat ⟨t22,v104,.sh⟩),(105,.dat ⟨(.int .i64),v105,.sh⟩)])
noncomputable def yB (v0:d79) (v2 v6 v11:List Int) (v114:Int) (p:List Nat:=[1,1,1,1,1,0,1,0]):Option d80:=zQ EE R L 310 Az p (mk 215 [(0,.dat ⟨(.ptr t24),v0,(.pin 0 (.own .sh))⟩),(2,.dat ⟨(.ptr t28),v2,.sh⟩),(6,.dat ⟨(.ptr t28),v6,(.own .sh)⟩),(11,.dat ⟨(.ptr BP2),v11,(.own .sh)⟩),(114,.dat ⟨(.int .i64),v114,.sh⟩)])
noncomputable def yA (v0:d79) (v194:List Int) (v195:Int) (p:List Nat:=[1,1,1,1,1,1,1,0]):Option d80:=zQ EE R L 310 Az p (mk 215 [(0,.dat ⟨(.ptr t24),v0,(.pin 0 (.own .sh))⟩),(194,.dat ⟨BP2,v194,.sh⟩),(195,.dat ⟨(.int .i64),v195,.sh⟩)])
noncomputable def tA (v1:List UInt8) (v2 v4:d79) (v5:List Int) (p:List Nat:=[1,1,1,1,0,0]):Option d80:=zQ EE R L 258 Go.Proofs.Tryz.f258 p (mk 28 [(1,.dat ⟨.str,v1,.sh⟩),(2,.dat ⟨(.ptr t24),v2,(.own .sh)⟩),(4,.dat ⟨(.ptr t24),v4,(.own .sh)⟩),(5,.dat ⟨(.ptr t28),v5,(.own .sh)⟩)])
noncomputable def xK (v1:d79) (v3:Int) (v4:List UInt8) (v5:Int) (p:List Nat:=[1,1,1,0,1,0]):Option d76:=zQ EE R L 259 AX p (mk 56 [(1,.dat ⟨(.ptr t24),v1,(.own .sh)⟩),(3,.dat ⟨(.int .i64),v3,.sh⟩),(4,.dat ⟨.str,v4,.sh⟩),(5,.dat ⟨(.int .i64),v5,.sh⟩)])
noncomputable def wK (v6 v35:List Int) (v36:Int) (p:List Nat:=[1,1,1,1,1,0,1,0]):Option d76:=zQ EE R L 259 AX p (mk 56 [(6,.dat ⟨t20,v6,(.own .sh)⟩),(35,.dat ⟨t22,v35,.sh⟩),(36,.dat ⟨(.int .i64),v36,.sh⟩)])
noncomputable def tE (v0:Int) (v5:List Int) (v7 v8:Int) (p:List Nat:=[1,1,0,1,0]):Option d76:=zQ EE R L 139 Go.Proofs.Tryz.f139 p (mk 22 [(0,.dat ⟨(.int .i64),v0,.sh⟩),(5,.dat ⟨t20,v5,(.own .sh)⟩),(7,.dat ⟨(.int .i64),v7,.sh⟩),(8,.dat ⟨(.int .i64),v8,.sh⟩)])
noncomputable def uL (v0 v1 v2 v3:Int) (v16:List (List Int)) (v17:Int) (p:List Nat:=[1,0,1,0]):Option d81:=zQ EE R L 354 Go.Proofs.Tryz.f354 p (mk 43 [(0,.dat ⟨(.int .u32),v0,.sh⟩),(1,.dat ⟨(.int .u32),v1,.sh⟩),(2,.dat ⟨(.int .u32),v2,.sh⟩),(3,.dat ⟨(.int .u32),v3,.sh⟩),(16,.dat ⟨BS3,v16,.sh⟩),(17,.dat ⟨(.int .i64),v17,.sh⟩)])
noncomputable def uI (v7:List UInt8) (v8 v9:List Int) (v25:Int) (p:List Nat:=[1,1,1,0,1,0]):Option d76:=zQ EE R L 322 A0 p (mk 111 [(7,.dat ⟨.str,v7,.sh⟩),(8,.dat ⟨(.ptr A7d),v8,(.own .sh)⟩),(9,.dat ⟨(.ptr A7d),v9,(.own .sh)⟩),(25,.dat ⟨(.int .i64),v25,.sh⟩)])
noncomputable def vN (v8 v9:List Int) (v41:Int) (p:List Nat:=[1,1,1,1,0,1,0]):Option d76:=zQ EE R L 322 A0 p (mk 111 [(8,.dat ⟨(.ptr A7d),v8,(.own .sh)⟩),(9,.dat ⟨(.ptr A7d),v9,(.own .sh)⟩),(41,.dat ⟨(.int .i64),v41,.sh⟩)])
noncomputable def pT (v8 v9:List Int) (v41 v43:Int) (p:List Nat:=[1,1,1,1,0,1,0,0,1,1,0,0,1,0]):Option d76:=zQ EE R L 322 A0 p (mk 111 [(8,.dat ⟨(.ptr A7d),v8,(.own .sh)⟩),(9,.dat ⟨(.ptr A7d),v9,(.own .sh)⟩),(41,.dat ⟨(.int .i64),v41,.sh⟩),(43,.dat ⟨(.int .i64),v43,.sh⟩)])
noncomputable def vP (v8 v9:List Int) (v16:List UInt8) (v95:Int) (p:List Nat:=[1,1,1,1,1,1,0,1,0]):Option d76:=zQ EE R L 322 A0 p (mk 111 [(8,.dat ⟨(.ptr A7d),v8,(.own .sh)⟩),(9,.dat ⟨(.ptr A7d),v9,(.own .sh)⟩),(16,.dat ⟨.str,v16,.sh⟩),(95,.dat ⟨(.int .i64),v95,.sh⟩)])
noncomputable def tG (v8 v9:List Int) (v11 v41 v43 v46:Int) (p:List Nat:=[1,1,1,1,0,1,0,0,1,1,0,0,1,0,0,1,1,0,0,1,1,0]):Option d76:=zQ EE R L 322 A0 p (mk 111 [(8,.dat ⟨(.ptr A7d),v8,(.own .sh)⟩),(9,.dat ⟨(.ptr A7d),v9,(.own .sh)⟩),(11,.dat ⟨(.int .i64),v11,.sh⟩),(41,.dat ⟨(.int .i64),v41,.sh⟩),(43,.dat ⟨(.int .i64),v43,.sh⟩),(46,.dat ⟨(.int .i64),v46,.sh⟩)])
noncomputable def vJ (v0 v1:List UInt8) (v2:Int) (v7:List Int) (v8:Int) (p:List Nat:=[1,1,0,1,0]):Option d76:=zQ EE R L 349 At p (mk 105 [(0,.dat ⟨.str,v0,.sh⟩),(1,.dat ⟨.str,v1,.sh⟩),(2,.dat ⟨(.int .i64),v2,.sh⟩),(7,.dat ⟨(.ptr t35),v7,(.own .sh)⟩),(8,.dat ⟨(.int .i64),v8,.sh⟩)])
noncomputable def xT (v0 v1:List UInt8) (v2:Int) (v7:List Int) (v9:Int) (p:List Nat:=[1,1,1,0,1,0]):Option d76:=zQ EE R L 349 At p (mk 105 [(0,.dat ⟨.str,v0,.sh⟩),(1,.dat ⟨.str,v1,.sh⟩),(2,.dat ⟨(.int .i64),v2,.sh⟩),(7,.dat ⟨(.ptr t35),v7,(.own .sh)⟩),(9,.dat ⟨(.int .i64),v9,.sh⟩)])
noncomputable def xR (v1:List UInt8) (v7:List Int) (v10:Int) (p:List Nat:=[1,1,1,1,1,0,1,0]):Option d76:=zQ EE R L 349 At p (mk 105 [(1,.dat ⟨.str,v1,.sh⟩),(7,.dat ⟨(.ptr t35),v7,(.own .sh)⟩),(10,.dat ⟨(.int .i64),v10,.sh⟩)])
noncomputable def yS (v7 v11:List Int) (v12:Int) (p:List Nat:=[1,1,1,1,1,1,1,0,1,0]):Option d76:=zQ EE R L 349 At p (mk 105 [(7,.dat ⟨(.ptr t35),v7,(.own .sh)⟩),(11,.dat ⟨(.ptr t35),v11,(.own .sh)⟩),(12,.dat ⟨(.int .i64),v12,.sh⟩)])
noncomputable def vQ (v7 v11:List Int) (v12 v13:Int) (p:List Nat:=[1,1,1,1,1,1,1,0,1,0,0,1,0,0,0,1,0]):Option d76:=zQ EE R L 349 At p (mk 105 [(7,.dat ⟨(.ptr t35),v7,(.own .sh)⟩),(11,.dat ⟨(.ptr t35),v11,(.own .sh)⟩),(12,.dat ⟨(.int .i64),v12,.sh⟩),(13,.dat ⟨(.int .i64),v13,.sh⟩)])
noncomputable def xQ (v7 v11 v15:List Int) (v16:Int) (p:List Nat:=[1,1,1,1,1,1,1,1,1,0,1,0]):Option d76:=zQ EE R L 349 At p (mk 105 [(7,.dat ⟨(.ptr t35),v7,(.own .sh)⟩),(11,.dat ⟨(.ptr t35),v11,(.own .sh)⟩),(15,.dat ⟨t20,v15,(.own .sh)⟩),(16,.dat ⟨(.int .i64),v16,.sh⟩)])
noncomputable def xU (v7 v11:List Int) (v12 v14:Int) (p:List Nat:=[1,1,1,1,1,1,1,0,1,0,0,1,0,0,1,1,0]):Option d76:=zQ EE R L 349 At p (mk 105 [(7,.dat ⟨(.ptr t35),v7,(.own .sh)⟩),(11,.dat ⟨(.ptr t35),v11,(.own .sh)⟩),(12,.dat ⟨(.int .i64),v12,.sh⟩),(14,.dat ⟨(.int .i64),v14,.sh⟩)])
noncomputable def nJ (v1:List UInt8) (v5:List Int) (v10 v11:Int) (p:List Nat:=[1,1,0,1,0]):Option d76:=zQ EE R L 321 Go.Proofs.Tryz.f321 p (mk 26 [(1,.dat ⟨.str,v1,.sh⟩),(5,.dat ⟨t20,v5,(.own .sh)⟩),(10,.dat ⟨(.int .i64),v10,.sh⟩),(11,.dat ⟨(.int .i64),v11,.sh⟩)])
noncomputable def tD (v0 v1:List UInt8) (v2:Int) (v3:List UInt8) (v9:List Int) (v10:List UInt8) (v11:Int) (p:List Nat:=[1,1,1,0,1,0]):Option d76:=zQ EE R L 313 Go.Proofs.Tryz.f313 p (mk 42 [(0,.dat ⟨.str,v0,.sh⟩),(1,.dat ⟨.str,v1,.sh⟩),(2,.dat ⟨(.int .i64),v2,.sh⟩),(3,.dat ⟨.str,v3,.sh⟩),(9,.dat ⟨t20,v9,(.own .sh)⟩),(10,.dat ⟨.str,v10,.sh⟩),(11,.dat ⟨(.int .i64),v11,.sh⟩)])
noncomputable def sJ (v0:List Int) (v3:Int) (p:List Nat:=[1,0,1,0]):Option d72:=zQ EE R L 44 Go.Proofs.Tryz.f44 p (mk 16 [(0,.dat ⟨t8,v0,.sh⟩),(3,.dat ⟨(.int .i64),v3,.sh⟩)])
noncomputable def uT (v0:Int) (v3:List Int) (v4:Int) (p:List Nat:=[1,1,0,1,0]):Option d76:=zQ EE R L 312 Go.Proofs.Tryz.f312 p (mk 20 [(0,.dat ⟨(.int .i64),v0,.sh⟩),(3,.dat ⟨t20,v3,(.own .sh)⟩),(4,.dat ⟨(.int .i64),v4,.sh⟩)])
noncomputable def nP (v0:List UInt8) (p:List Nat:=[1,0,0]):Option d76:=zQ EE R L 351 Go.Proofs.Tryz.f351 p (mk 10 [(0,.dat ⟨.str,v0,.sh⟩)])
noncomputable def vM (v3:List Int) (v4:Int) (p:List Nat:=[1,1,0,1,0]):Option d76:=zQ EE R L 374 AY p (mk 31 [(3,.dat ⟨t20,v3,(.own .sh)⟩),(4,.dat ⟨(.int .i64),v4,.sh⟩)])
noncomputable def vL (v3:List Int) (v5:Int) (p:List Nat:=[1,1,1,0,1,0]):Option d76:=zQ EE R L 374 AY p (mk 31 [(3,.dat ⟨t20,v3,(.own .sh)⟩),(5,.dat ⟨(.int .i64),v5,.sh⟩)])
noncomputable def wM (v0:List UInt8) (v2 v3:List Int) (v4:Int) (p:List Nat:=[1,1,0,1,0]):Option d75:=zQ EE R L 373 Go.Proofs.Tryz.f373 p (mk 50 [(0,.dat ⟨.str,v0,.sh⟩),(2,.dat ⟨(.ptr t37),v2,(.own .sh)⟩),(3,.dat ⟨(.ptr t37),v3,(.own .sh)⟩),(4,.dat ⟨(.int .i64),v4,.sh⟩)])
noncomputable def rK (v1 v2:List Int) (v3:Int) (p:List Nat:=[1,0,1,0]):Option d75:=zQ EE R L 377 AZ p (mk 41 [(1,.dat ⟨(.ptr t37),v1,(.own .sh)⟩),(2,.dat ⟨(.ptr t37),v2,(.own .sh)⟩),(3,.dat ⟨(.int .i64),v3,.sh⟩)])
noncomputable def vS (v1 v2:List Int) (v3 v4:Int) (p:List Nat:=[1,0,1,0,0,1,0,0,0,1,0]):Option d75:=zQ EE R L 377 AZ p (mk 41 [(1,.dat ⟨(.ptr t37),v1,(.own .sh)⟩),(2,.dat ⟨(.ptr t37),v2,(.own .sh)⟩),(3,.dat ⟨(.int .i64),v3,.sh⟩),(4,.dat ⟨(.int .i64),v4,.sh⟩)])
noncomputable def wP (v2 v3 v4 v5:List Int) (v6:Int) (p:List Nat:=[1,1,0,1,0]):Option d75:=zQ EE R L 375 A' p (mk 42 [(2,.dat ⟨(.ptr t37),v2,(.own .sh)⟩),(3,.dat ⟨(.ptr t37),v3,(.own .sh)⟩),(4,.dat ⟨(.ptr t37),v4,(.own .sh)⟩),(5,.dat ⟨(.ptr t37),v5,(.own .sh)⟩),(6,.dat ⟨(.int .i64),v6,.sh⟩)])
noncomputable def wN (v2 v3 v4 v5:List Int) (v6 v7:Int) (p:List Nat:=[1,1,0,1,0,0,1,0,0,1,0]):Option d75:=zQ EE R L 375 A' p (mk 42 [(2,.dat ⟨(.ptr t37),v2,(.own .sh)⟩),(3,.dat ⟨(.ptr t37),v3,(.own .sh)⟩),(4,.dat ⟨(.ptr t37),v4,(.own .sh)⟩),(5,.dat ⟨(.ptr t37),v5,(.own .sh)⟩),(6,.dat ⟨(.int .i64),v6,.sh⟩),(7,.dat ⟨(.int .i64),v7,.sh⟩)])
noncomputable def tJ (v1 v2 v3:List Int) (v4:Int) (p:List Nat:=[1,1,1,0,1,0]):Option d75:=zQ EE R L 376 Go.Proofs.Tryz.f376 p (mk 39 [(1,.dat ⟨(.ptr t37),v1,(.own .sh)⟩),(2,.dat ⟨(.ptr t37),v2,(.own .sh)⟩),(3,.dat ⟨(.ptr t37),v3,(.own .sh)⟩),(4,.dat ⟨(.int .i64),v4,.sh⟩)])
noncomputable def tF (v0 v1:List UInt8) (v5 v6:List Int) (v7:Int) (p:List Nat:=[1,1,1,0,1,0]):Option d76:=zQ EE R L 350 A9 p (mk 108 [(0,.dat ⟨.str,v0,.sh⟩),(1,.dat ⟨.str,v1,.sh⟩),(5,.dat ⟨(.ptr t37),v5,(.own .sh)⟩),(6,.dat ⟨(.ptr t37),v6,(.own .sh)⟩),(7,.dat ⟨(.int .i64),v7,.sh⟩)])
noncomputable def qC (v0 v1:List UInt8) (v5 v6:List Int) (v7:Int) (v8:List UInt8) (p:List Nat:=[1,1,1,0,1,0,0,1,0,0,1,0,0]):Option d76:=zQ EE R L 350 A9 p (mk 108 [(0,.dat ⟨.str,v0,.sh⟩),(1,.dat ⟨.str,v1,.sh⟩),(5,.dat ⟨(.ptr t37),v5,(.own .sh)⟩),(6,.dat ⟨(.ptr t37),v6,(.own .sh)⟩),(7,.dat ⟨(.int .i64),v7,.sh⟩),(8,.dat ⟨.str,v8,.sh⟩)])
noncomputable def vH (v0:List UInt8) (v6 v11:List Int) (v12 v13:Int) (p:List Nat:=[1,1,1,1,1,1,1,0,1,0]):Option d76:=zQ EE R L 350 A9 p (mk 108 [(0,.dat ⟨.str,v0,.sh⟩),(6,.dat ⟨(.ptr t37),v6,(.own .sh)⟩),(11,.dat ⟨t20,v11,(.own .sh)⟩),(12,.dat ⟨(.int .i64),v12,.sh⟩),(13,.dat ⟨(.int .i64),v13,.sh⟩)])
noncomputable def uM (v0 v1:List UInt8) (v5 v6:List Int) (v7:Int) (v9:List Int) (v10:Int) (p:List Nat:=[1,1,1,0,1,0,0,1,0,0,1,1,1,0,1,0]):Option d76:=zQ EE R L 350 A9 p (mk 108 [(0,.dat ⟨.str,v0,.sh⟩),(1,.dat ⟨.str,v1,.sh⟩),(5,.dat ⟨(.ptr t37),v5,(.own .sh)⟩),(6,.dat ⟨(.ptr t37),v6,(.own .sh)⟩),(7,.dat ⟨(.int .i64),v7,.sh⟩),(9,.dat ⟨(.ptr t37),v9,(.own .sh)⟩),(10,.dat ⟨(.int .i64),v10,.sh⟩)])
noncomputable def qM (v1 v2 v3:d64) (v4:Int) (p:List Nat:=[1,1,0,1,0]):Option d82:=zQ EE R L 130 Go.Proofs.Tryz.f130 p (mk 34 [(1,.dat ⟨(.ptr t2),v1,(.own .sh)⟩),(2,.dat ⟨(.ptr t2),v2,(.own (.pr (.own .sh) (.pr (.own .sh) .sh)))⟩),(3,.dat ⟨(.ptr t2),v3,(.own (.pr (.own .sh) (.pr (.own .sh) .sh)))⟩),(4,.dat ⟨(.int .i64),v4,.sh⟩)])
noncomputable def xZ (v0:List (List UInt8)) (v1:FnVal) (v4 v7 v8:Int) (p:List Nat:=[1,0,1,0]):Option d73:=zQ EE R L 308 Ba p (mk 19 [(0,.dat ⟨(.sl .str),v0,.sh⟩),(1,.dat ⟨.fn,v1,.sh⟩),(4,.dat ⟨(.int .i64),v4,.sh⟩),(7,.dat ⟨(.int .i64),v7,.sh⟩),(8,.dat ⟨(.int .i64),v8,.sh⟩)])
noncomputable def zE (v0:List (List UInt8)) (v1:FnVal) (v4 v5 v7 v8:Int) (p:List Nat:=[1,0,1,0]):Option d73:=zQ EE R L 308 Ba p (mk 19 [(0,.dat ⟨(.sl .str),v0,.sh⟩),(1,.dat ⟨.fn,v1,.sh⟩),(4,.dat ⟨(.int .i64),v4,.sh⟩),(5,.dat ⟨(.int .i64),v5,.sh⟩),(7,.dat ⟨(.int .i64),v7,.sh⟩),(8,.dat ⟨(.int .i64),v8,.sh⟩)])
noncomputable def uN (v3:List Int) (v4:Int) (p:List Nat:=[1,1,0,1,0]):Option d76:=zQ EE R L 356 Bb p (mk 31 [(3,.dat ⟨t20,v3,(.own .sh)⟩),(4,.dat ⟨(.int .i64),v4,.sh⟩)])
noncomputable def uJ (v3:List Int) (v5:Int) (p:List Nat:=[1,1,1,0,1,0]):Option d76:=zQ EE R L 356 Bb p (mk 31 [(3,.dat ⟨t20,v3,(.own .sh)⟩),(5,.dat ⟨(.int .i64),v5,.sh⟩)])
noncomputable def xV (v2 v3 v9:List Int) (v10 v11:Int) (p:List Nat:=[1,1,0,1,0]):Option d75:=zQ EE R L 355 Bc p (mk 40 [(2,.dat ⟨(.ptr t41),v2,(.own .sh)⟩),(3,.dat ⟨(.ptr t41),v3,(.own .sh)⟩),(9,.dat ⟨t20,v9,(.own .sh)⟩),(10,.dat ⟨(.int .i64),v10,.sh⟩),(11,.dat ⟨(.int .i64),v11,.sh⟩)])
noncomputable def wL (v2 v3:List Int) (v4 v5:Int) (v9:List Int) (v10 v11 v16:Int) (p:List Nat:=[1,1,0,1,0,0,1,1,0,0,1,1,0]):Option d75:=zQ EE R L 355 Bc p (mk 40 [(2,.dat ⟨(.ptr t41),v2,(.own .sh)⟩),(3,.dat ⟨(.ptr t41),v3,(.own .sh)⟩),(4,.dat ⟨(.int .i64),v4,.sh⟩),(5,.dat ⟨(.int .u8),v5,.sh⟩),(9,.dat ⟨t20,v9,(.own .sh)⟩),(10,.dat ⟨(.int .i64),v10,.sh⟩),(11,.dat ⟨(.int .i64),v11,.sh⟩),(16,.dat ⟨(.int .i64),v16,.sh⟩)])
noncomputable def vT (v1 v2:List Int) (v5:Int) (p:List Nat:=[1,0,1,0]):Option d75:=zQ EE R L 379 Be p (mk 34 [(1,.dat ⟨(.ptr t41),v1,(.own .sh)⟩),(2,.dat ⟨(.ptr t41),v2,(.own .sh)⟩),(5,.dat ⟨(.int .i64),v5,.sh⟩)])
noncomputable def yY (v1 v2:List Int) (v3 v5 v7:Int) (p:List Nat:=[1,0,1,0,0,1,1,0,0,1,0,1,0]):Option d75:=zQ EE R L 379 Be p (mk 34 [(1,.dat ⟨(.ptr t41),v1,(.own .sh)⟩),(2,.dat ⟨(.ptr t41),v2,(.own .sh)⟩),(3,.dat ⟨(.int .u64),v3,.sh⟩),(5,.dat ⟨(.int .i64),v5,.sh⟩),(7,.dat ⟨(.int .i64),v7,.sh⟩)])
noncomputable def vB (v2 v3 v4:List Int) (v6:Int) (p:List Nat:=[1,0,1,0]):Option d75:=zQ EE R L 357 Go.Proofs.Tryz.f357 p (mk 20 [(2,.dat ⟨(.ptr t41),v2,(.own .sh)⟩),(3,.dat ⟨(.ptr t41),v3,(.own .sh)⟩),(4,.dat ⟨(.ptr t41),v4,(.own .sh)⟩),(6,.dat ⟨(.int .i64),v6,.sh⟩)])
noncomputable def xE (v3 v4 v5 v10:List Int) (v11:Int) (p:List Nat:=[1,1,0,1,0]):Option d75:=zQ EE R L 358 Bf p (mk 50 [(3,.dat ⟨(.ptr t41),v3,(.own .sh)⟩),(4,.dat ⟨(.ptr t41),v4,(.own .sh)⟩),(5,.dat ⟨(.ptr t41),v5,(.own .sh)⟩),(10,.dat ⟨t41,v10,.sh⟩),(11,.dat ⟨(.int .i64),v11,.sh⟩)])
noncomputable def xG (v3 v4 v5:List Int) (v6 v7:Int) (v10:List Int) (v11:Int) (v15:List Int) (v16:Int) (p:List Nat:=[1,1,0,1,0,0,1,1,0,0,1,1,0]):Option d75:=zQ EE R L 358 Bf p (mk 50 [(3,.dat ⟨(.ptr t41),v3,(.own .sh)⟩),(4,.dat ⟨(.ptr t41),v4,(.own .sh)⟩),(5,.dat ⟨(.ptr t41),v5,(.own .sh)⟩),(6,.dat ⟨(.int .i64),v6,.sh⟩),(7,.dat ⟨(.int .u64),v7,.sh⟩),(10,.dat ⟨t41,v10,.sh⟩),(11,.dat ⟨(.int .i64),v11,.sh⟩),(15,.dat ⟨t41,v15,.sh⟩),(16,.dat ⟨(.int .i64),v16,.sh⟩)])
noncomputable def yZ (v1 v2 v3:List Int) (v4:Int) (p:List Nat:=[1,1,1,0,1,0]):Option d75:=zQ EE R L 359 Bg p (mk 41 [(1,.dat ⟨(.ptr t41),v1,(.own .sh)⟩),(2,.dat ⟨(.ptr t41),v2,(.own .sh)⟩),(3,.dat ⟨(.ptr t41),v3,(.own .sh)⟩),(4,.dat ⟨(.int .i64),v4,.sh⟩)])
noncomputable def zR (v1 v2 v3:List Int) (v28:Int) (p:List Nat:=[1,1,1,1,0,1,0]):Option d75:=zQ EE R L 359 Bg p (mk 41 [(1,.dat ⟨(.ptr t41),v1,(.own .sh)⟩),(2,.dat ⟨(.ptr t41),v2,(.own .sh)⟩),(3,.dat ⟨(.ptr t41),v3,(.own .sh)⟩),(28,.dat ⟨(.int .i64),v28,.sh⟩)])
noncomputable def yT (v1:List UInt8) (v2 v5:List Int) (v6 v13 v14:Int) (p:List Nat:=[1,1,1,0,1,0]):Option d76:=zQ EE R L 360 Bh p (mk 56 [(1,.dat ⟨.str,v1,.sh⟩),(2,.dat ⟨(.ptr t41),v2,(.own .sh)⟩),(5,.dat ⟨t20,v5,(.own .sh)⟩),(6,.dat ⟨(.int .i64),v6,.sh⟩),(13,.dat ⟨(.int .i64),v13,.sh⟩),(14,.dat ⟨(.int .i64),v14,.sh⟩)])
noncomputable def xH (v1:List UInt8) (v2 v5:List Int) (v6 v7 v8 v13 v14 v17:Int) (p:List Nat:=[1,1,1,0,1,0,0,1,1,0,0,1,1,0,1,0]):Option d76:=zQ EE R L 360 Bh p (mk 56 [(1,.dat ⟨.str,v1,.sh⟩),(2,.dat ⟨(.ptr t41),v2,(.own .sh)⟩),(5,.dat ⟨t20,v5,(.own .sh)⟩),(6,.dat ⟨(.int .i64),v6,.sh⟩),(7,.dat ⟨(.int .i64),v7,.sh⟩),(8,.dat ⟨(.int .i64),v8,.sh⟩),(13,.dat ⟨(.int .i64),v13,.sh⟩),(14,.dat ⟨(.int .i64),v14,.sh⟩),(17,.dat ⟨(.int .i64),v17,.sh⟩)])
noncomputable def lF (v0 v1:List UInt8) (v5 v6:List Int) (v7:Int) (p:List Nat:=[1,1,1,0,1,0]):Option d76:=zQ EE R L 324 Go.Proofs.Tryz.f324 p (mk 36 [(0,.dat ⟨.str,v0,.sh⟩),(1,.dat ⟨.str,v1,.sh⟩),(5,.dat ⟨(.ptr t41),v5,(.own .sh)⟩),(6,.dat ⟨(.ptr t41),v6,(.own .sh)⟩),(7,.dat ⟨(.int .i64),v7,.sh⟩)])
noncomputable def vV (v0 v1:List (List UInt8)) (v4:Bool) (v5:Int) (p:List Nat:=[1,1,0,1,0]):Option d72:=zQ EE R L 114 Go.Proofs.Tryz.f114 p (mk 26 [(0,.dat ⟨(.sl .str),v0,.sh⟩),(1,.dat ⟨(.sl .str),v1,.sh⟩),(4,.dat ⟨.bool,v4,.sh⟩),(5,.dat ⟨(.int .i64),v5,.sh⟩)])
noncomputable def rU (v0 v1:List d63) (v4:Bool) (v5:Int) (p:List Nat:=[1,1,0,1,0]):Option d72:=zQ EE R L 115 Go.Proofs.Tryz.f115 p (mk 27 [(0,.dat ⟨(.sl t1),v0,.sh⟩),(1,.dat ⟨(.sl t1),v1,.sh⟩),(4,.dat ⟨.bool,v4,.sh⟩),(5,.dat ⟨(.int .i64),v5,.sh⟩)])
noncomputable def rS (v0 v1:List d67) (v4:Bool) (v5:Int) (p:List Nat:=[1,1,0,1,0]):Option d72:=zQ EE R L 146 Go.Proofs.Tryz.f146 p (mk 27 [(0,.dat ⟨(.sl t5),v0,.sh⟩),(1,.dat ⟨(.sl t5),v1,.sh⟩),(4,.dat ⟨.bool,v4,.sh⟩),(5,.dat ⟨(.int .i64),v5,.sh⟩)])
noncomputable def sX (v0 v1:List d68) (v4:Bool) (v5:Int) (p:List Nat:=[1,1,0,1,0]):Option d72:=zQ EE R L 27 Go.Proofs.Tryz.f27 p (mk 27 [(0,.dat ⟨(.sl t6),v0,.sh⟩),(1,.dat ⟨(.sl t6),v1,.sh⟩),(4,.dat ⟨.bool,v4,.sh⟩),(5,.dat ⟨(.int .i64),v5,.sh⟩)])
noncomputable def sT (v0 v1:List Int) (v4:Bool) (v5:Int) (p:List Nat:=[1,1,0,1,0]):Option d72:=zQ EE R L 14 Go.Proofs.Tryz.f14 p (mk 26 [(0,.dat ⟨t8,v0,.sh⟩),(1,.dat ⟨t8,v1,.sh⟩),(4,.dat ⟨.bool,v4,.sh⟩),(5,.dat ⟨(.int .i64),v5,.sh⟩)])
noncomputable def rQ (v0:Int) (v2 v3:List UInt8) (p:List Nat:=[1,1,1,0,0]):Option d76:=zQ EE R L 193 Go.Proofs.Tryz.f193 p (mk 20 [(0,.dat ⟨(.int .i64),v0,.sh⟩),(2,.dat ⟨.str,v2,.sh⟩),(3,.dat ⟨.str,v3,.sh⟩)])
noncomputable def wH (v0:List (List UInt8)) (v1 v4 v5:Int) (p:List Nat:=[1,0,1,0]):Option d86:=zQ EE R L 117 Go.Proofs.Tryz.f117 p (mk 20 [(0,.dat ⟨(.sl .str),v0,(.pin 0 (.own .sh))⟩),(1,.dat ⟨(.int .i64),v1,.sh⟩),(4,.dat ⟨(.int .i64),v4,.sh⟩),(5,.dat ⟨(.int .i64),v5,.sh⟩)])
noncomputable def tH (v0:List d63) (v1 v4 v5:Int) (p:List Nat:=[1,0,1,0]):Option d87:=zQ EE R L 118 Go.Proofs.Tryz.f118 p (mk 28 [(0,.dat ⟨(.sl t1),v0,(.pin 0 (.own .sh))⟩),(1,.dat ⟨(.int .i64),v1,.sh⟩),(4,.dat ⟨(.int .i64),v4,.sh⟩),(5,.dat ⟨(.int .i64),v5,.sh⟩)])
noncomputable def tK (v0:List d67) (v1 v4 v5:Int) (p:List Nat:=[1,0,1,0]):Option d90:=zQ EE R L 75 Go.Proofs.Tryz.f75 p (mk 34 [(0,.dat ⟨(.sl t5),v0,(.pin 0 (.own .sh))⟩),(1,.dat ⟨(.int .i64),v1,.sh⟩),(4,.dat ⟨(.int .i64),v4,.sh⟩),(5,.dat ⟨(.int .i64),v5,.sh⟩)])
noncomputable def uR (v0:List d68) (v1 v4 v5:Int) (p:List Nat:=[1,0,1,0]):Option d91:=zQ EE R L 29 Go.Proofs.Tryz.f29 p (mk 20 [(0,.dat ⟨(.sl t6),v0,(.pin 0 (.own (.pr (.own .sh) .sh)))⟩),(1,.dat ⟨(.int .i64),v1,.sh⟩),(4,.dat ⟨(.int .i64),v4,.sh⟩),(5,.dat ⟨(.int .i64),v5,.sh⟩)])
noncomputable def uU (v0:List Int) (v1 v4 v5:Int) (p:List Nat:=[1,0,1,0]):Option d69:=zQ EE R L 15 Go.Proofs.Tryz.f15 p (mk 19 [(0,.dat ⟨t8,v0,(.pin 0 (.own .sh))⟩),(1,.dat ⟨(.int .i64),v1,.sh⟩),(4,.dat ⟨(.int .i64),v4,.sh⟩),(5,.dat ⟨(.int .i64),v5,.sh⟩)])
noncomputable def wE (v0:List (List UInt8)) (v1 v4 v5:Int) (p:List Nat:=[1,0,1,0]):Option d73:=zQ EE R L 119 Go.Proofs.Tryz.f119 p (mk 22 [(0,.dat ⟨(.sl .str),v0,.sh⟩),(1,.dat ⟨(.int .i64),v1,.sh⟩),(4,.dat ⟨(.int .i64),v4,.sh⟩),(5,.dat ⟨(.int .i64),v5,.sh⟩)])
noncomputable def tL (v0:List d63) (v1 v4 v5:Int) (p:List Nat:=[1,0,1,0]):Option d73:=zQ EE R L 120 Go.Proofs.Tryz.f120 p (mk 32 [(0,.dat ⟨(.sl t1),v0,.sh⟩),(1,.dat ⟨(.int .i64),v1,.sh⟩),(4,.dat ⟨(.int .i64),v4,.sh⟩),(5,.dat ⟨(.int .i64),v5,.sh⟩)])
noncomputable def qK (v0:List UInt8) (v1 v2:Int) (v8:d78) (v11:List (List UInt8)) (v12:Int) (p:List Nat:=[1,1,0,1,0]):Option d84:=zQ EE R L 180 Go.Proofs.Tryz.f180 p (mk 45 [(0,.dat ⟨.str,v0,.sh⟩),(1,.dat ⟨(.int .i64),v1,.sh⟩),(2,.dat ⟨(.int .i64),v2,.sh⟩),(8,.dat ⟨(.ptr t19),v8,(.own .sh)⟩),(11,.dat ⟨(.sl .str),v11,(.own .sh)⟩),(12,.dat ⟨(.int .i64),v12,.sh⟩)])
noncomputable def sL (v0 v3:List (List UInt8)) (v4:Int) (p:List Nat:=[1,1,0,1,0]):Option d84:=zQ EE R L 251 Go.Proofs.Tryz.f251 p (mk 22 [(0,.dat ⟨(.sl .str),v0,.sh⟩),(3,.dat ⟨(.sl .str),v3,(.own .sh)⟩),(4,.dat ⟨(.int .i64),v4,.sh⟩)])
noncomputable def rP (v0 v3:List (List UInt8)) (v4:Int) (p:List Nat:=[1,1,0,1,0]):Option d84:=zQ EE R L 252 Go.Proofs.Tryz.f252 p (mk 27 [(0,.dat ⟨(.sl .str),v0,.sh⟩),(3,.dat ⟨(.sl .str),v3,(.own .sh)⟩),(4,.dat ⟨(.int .i64),v4,.sh⟩)])
noncomputable def rA (v3:List (List UInt8)) (p:List Nat:=[1,1,0,0]):Option d76:=zQ EE R L 182 Go.Proofs.Tryz.f182 p (mk 14 [(3,.dat ⟨(.sl .str),v3,(.own .sh)⟩)])
noncomputable def dA (v1:Int) (v2:List (List UInt8)) (v3 v6:d64) (v7:Int) (p:List Nat:=[1,0,1,0]):Option d82:=zQ EE R L 183 Bi p (mk 25 [(1,.dat ⟨(.int .i64),v1,.sh⟩),(2,.dat ⟨(.sl .str),v2,.sh⟩),(3,.dat ⟨(.ptr t2),v3,(.own .sh)⟩),(6,.dat ⟨(.ptr t2),v6,(.own (.pr (.own .sh) (.pr (.own .sh) .sh)))⟩),(7,.dat ⟨(.int .i64),v7,.sh⟩)])
noncomputable def jN (v1:Int) (v2:List (List UInt8)) (v3 v6:d64) (v7:Int) (p:List Nat:=[1,0,1,0]):Option d82:=zQ EE R L 183 Bi p (mk 25 [(1,.dat ⟨(.int .i64),v1,.sh⟩),(2,.dat ⟨(.sl .str),v2,.sh⟩),(3,.dat ⟨(.ptr t2),v3,(.own (.pr .sh (.pr (.own .sh) .sh)))⟩),(6,.dat ⟨(.ptr t2),v6,(.own (.pr (.own .sh) (.pr (.own .sh) .sh)))⟩),(7,.dat ⟨(.int .i64),v7,.sh⟩)])
noncomputable def uX (v0:List UInt8) (v4 v11:Int) (v12:List (List UInt8)) (v27:List (List d67)) (v28 v29:Int) (p:List Nat:=[1,1,1,0,1,0]):Option d84:=zQ EE R L 109 Go.Proofs.Tryz.f109 p (mk 48 [(0,.dat ⟨.str,v0,.sh⟩),(4,.dat ⟨(.int .i64),v4,.sh⟩),(11,.dat ⟨(.int .i64),v11,.sh⟩),(12,.dat ⟨(.sl .str),v12,(.own .sh)⟩),(27,.dat ⟨t17,v27,.sh⟩),(28,.dat ⟨(.int .i64),v28,.sh⟩),(29,.dat ⟨(.int .i64),v29,.sh⟩)])
noncomputable def nB (v3 v9:List (List UInt8)) (v10 v11:Int) (p:List Nat:=[1,1,0,1,0]):Option d96:=zQ EE R L 191 AH p (mk 53 [(3,.dat ⟨(.sl .str),v3,(.own .sh)⟩),(9,.dat ⟨(.sl .str),v9,.sh⟩),(10,.dat ⟨(.int .i64),v10,.sh⟩),(11,.dat ⟨(.int .i64),v11,.sh⟩)])
noncomputable def rC (v3:List (List UInt8)) (v6:List (List (List UInt8))) (p:List Nat:=[1,1,1,1,0,0]):Option d96:=zQ EE R L 191 AH p (mk 53 [(3,.dat ⟨(.sl .str),v3,.sh⟩),(6,.dat ⟨t55,v6,(.own .sh)⟩)])
noncomputable def lE (v3:List (List UInt8)) (v6:List (List (List UInt8))) (v7:List (List UInt8)) (v8:Int) (p:List Nat:=[1,1,1,1,0,0,0,1,0,1,0,1,0]):Option d96:=zQ EE R L 191 AH p (mk 53 [(3,.dat ⟨(.sl .str),v3,.sh⟩),(6,.dat ⟨t55,v6,(.own .sh)⟩),(7,.dat ⟨(.sl .str),v7,(.own .sh)⟩),(8,.dat ⟨(.int .i64),v8,.sh⟩)])
noncomputable def uP (v0 v1:List d66) (v4:Bool) (v5:Int) (p:List Nat:=[1,1,0,1,0]):Option d72:=zQ EE R L 50 Go.Proofs.Tryz.f50 p (mk 27 [(0,.dat ⟨(.sl t4),v0,.sh⟩),(1,.dat ⟨(.sl t4),v1,.sh⟩),(4,.dat ⟨.bool,v4,.sh⟩),(5,.dat ⟨(.int .i64),v5,.sh⟩)])
noncomputable def tN (v0 v1:List (List d68)) (v4:Bool) (v5:Int) (p:List Nat:=[1,1,0,1,0]):Option d72:=zQ EE R L 51 Go.Proofs.Tryz.f51 p (mk 27 [(0,.dat ⟨t7,v0,.sh⟩),(1,.dat ⟨t7,v1,.sh⟩),(4,.dat ⟨.bool,v4,.sh⟩),(5,.dat ⟨(.int .i64),v5,.sh⟩)])
noncomputable def vX (v0 v1:List d69) (v4:Bool) (v5:Int) (p:List Nat:=[1,1,0,1,0]):Option d72:=zQ EE R L 37 Go.Proofs.Tryz.f37 p (mk 27 [(0,.dat ⟨(.sl t9),v0,.sh⟩),(1,.dat ⟨(.sl t9),v1,.sh⟩),(4,.dat ⟨.bool,v4,.sh⟩),(5,.dat ⟨(.int .i64),v5,.sh⟩)])
noncomputable def wZ (v0:List d66) (v1 v4 v5:Int) (p:List Nat:=[1,0,1,0]):Option d98:=zQ EE R L 53 Go.Proofs.Tryz.f53 p (mk 27 [(0,.dat ⟨(.sl t4),v0,(.pin 0 (.own .sh))⟩),(1,.dat ⟨(.int .i64),v1,.sh⟩),(4,.dat ⟨(.int .i64),v4,.sh⟩),(5,.dat ⟨(.int .i64),v5,.sh⟩)])
noncomputable def vW (v0:List (List d68)) (v1 v4 v5:Int) (p:List Nat:=[1,0,1,0]):Option d99:=zQ EE R L 54 Go.Proofs.Tryz.f54 p (mk 19 [(0,.dat ⟨t7,v0,(.pin 0 (.own (.own (.pr (.own .sh) .sh))))⟩),(1,.dat ⟨(.int .i64),v1,.sh⟩),(4,.dat ⟨(.int .i64),v4,.sh⟩),(5,.dat ⟨(.int .i64),v5,.sh⟩)])
noncomputable def wD (v0:List d69) (v1 v4 v5:Int) (p:List Nat:=[1,0,1,0]):Option BR4:=zQ EE R L 38 Go.Proofs.Tryz.f38 p (mk 27 [(0,.dat ⟨(.sl t9),v0,(.pin 0 (.own (.pr .sh (.pr (.own .sh) .sh))))⟩),(1,.dat ⟨(.int .i64),v1,.sh⟩),(4,.dat ⟨(.int .i64),v4,.sh⟩),(5,.dat ⟨(.int .i64),v5,.sh⟩)])
noncomputable def vA (v0:List d66) (v1 v4 v5:Int) (p:List Nat:=[1,0,1,0]):Option d73:=zQ EE R L 56 Go.Proofs.Tryz.f56 p (mk 31 [(0,.dat ⟨(.sl t4),v0,.sh⟩),(1,.dat ⟨(.int .i64),v1,.sh⟩),(4,.dat ⟨(.int .i64),v4,.sh⟩),(5,.dat ⟨(.int .i64),v5,.sh⟩)])
noncomputable def tI (v0:List d67) (v1 v4 v5:Int) (p:List Nat:=[1,0,1,0]):Option d73:=zQ EE R L 194 Go.Proofs.Tryz.f194 p (mk 40 [(0,.dat ⟨(.sl t5),v0,.sh⟩),(1,.dat ⟨(.int .i64),v1,.sh⟩),(4,.dat ⟨(.int .i64),v4,.sh⟩),(5,.dat ⟨(.int .i64),v5,.sh⟩)])
noncomputable def uQ (v0:List d68) (v1 v4 v5:Int) (p:List Nat:=[1,0,1,0]):Option d73:=zQ EE R L 121 Go.Proofs.Tryz.f121 p (mk 22 [(0,.dat ⟨(.sl t6),v0,.sh⟩),(1,.dat ⟨(.int .i64),v1,.sh⟩),(4,.dat ⟨(.int .i64),v4,.sh⟩),(5,.dat ⟨(.int .i64),v5,.sh⟩)])
noncomputable def vU (v0:List (List d68)) (v1 v4 v5:Int) (p:List Nat:=[1,0,1,0]):Option d73:=zQ EE R L 57 Go.Proofs.Tryz.f57 p (mk 21 [(0,.dat ⟨t7,v0,.sh⟩),(1,.dat ⟨(.int .i64),v1,.sh⟩),(4,.dat ⟨(.int .i64),v4,.sh⟩),(5,.dat ⟨(.int .i64),v5,.sh⟩)])
noncomputable def uO (v0:List Int) (v1 v4 v5:Int) (p:List Nat:=[1,0,1,0]):Option d73:=zQ EE R L 89 Go.Proofs.Tryz.f89 p (mk 21 [(0,.dat ⟨t8,v0,.sh⟩),(1,.dat ⟨(.int .i64),v1,.sh⟩),(4,.dat ⟨(.int .i64),v4,.sh⟩),(5,.dat ⟨(.int .i64),v5,.sh⟩)])
noncomputable def wF (v0:List d69) (v1 v4 v5:Int) (p:List Nat:=[1,0,1,0]):Option d73:=zQ EE R L 39 Go.Proofs.Tryz.f39 p (mk 31 [(0,.dat ⟨(.sl t9),v0,.sh⟩),(1,.dat ⟨(.int .i64),v1,.sh⟩),(4,.dat ⟨(.int .i64),v4,.sh⟩),(5,.dat ⟨(.int .i64),v5,.sh⟩)])
noncomputable def rN (v0 v1:Int) (v5:List Int) (v6:Int) (p:List Nat:=[1,1,0,1,0]):Option d75:=zQ EE R L 58 Go.Proofs.Tryz.f58 p (mk 24 [(0,.dat ⟨(.int .i64),v0,.sh⟩),(1,.dat ⟨(.int .i64),v1,.sh⟩),(5,.dat ⟨t8,v5,(.own .sh)⟩),(6,.dat ⟨(.int .i64),v6,.sh⟩)])
noncomputable def nC (v0:Int) (v5:List Int) (v6 v7:Int) (p:List Nat:=[1,1,0,1,0]):Option d75:=zQ EE R L 59 Go.Proofs.Tryz.f59 p (mk 21 [(0,.dat ⟨(.int .i64),v0,.sh⟩),(5,.dat ⟨t8,v5,(.own .sh)⟩),(6,.dat ⟨(.int .i64),v6,.sh⟩),(7,.dat ⟨(.int .i64),v7,.sh⟩)])
theorem Ae6:@Eq _ (oG (zF EE R L)) (tR R L (([],((0,(0,(0,(0,([],([],([],()))))))),(([],([],())),(false,(false,()))))),(([],([],())),([],([],([],(false,())))))) [] 0):=by kernel_rfl
theorem cV (v0:d70) (v1:List Int) (v2:Int):@Eq _ (tR R L v0 v1 v2 ([1,1,0,1,0]++[0])) (cond (decide (v2 < 32)) (cond (zX (v1.length+([Aa .u8 v2]).length)) (tR R L v0 (v1++[Aa .u8 v2]) (Aa .i64 (v2+1))) none) ((kI R 1 12).bind fun r0=>(jV R (Ak (fun (n:Int)=>Aj n.toNat) v1) r0.1).bind fun r1=>(lC R r1.1).bind fun r2=>some (r2.1,()))):=by kernel_rfl
theorem Ag3:@Eq _ (qL (zF EE R L)) (tP R L (([],((0,(0,(0,(0,([],([],([],()))))))),(([],([],())),(false,(false,()))))),(([],([],())),([],([],([],(false,())))))) [] 0):=by kernel_rfl
theorem cP (v0:d70) (v1:List Int) (v5:Int):@Eq _ (tP R L v0 v1 v5 ([1,1,0,1,0]++[0])) (cond (decide (v5 < 32)) (cond (zX (v1.length+([Aa .u8 v5]).length)) (tP R L v0 (v1++[Aa .u8 v5]) (Aa .i64 (v5+1))) none) ((bO R 1 12).bind fun r0=>(nG R (Ak (fun (n:Int)=>Aj n.toNat) v1) r0.1).bind fun r1=>some (r1.1,()))):=by kernel_rfl
theorem bY:@Eq _ (pM (zF EE R L)) ((oG R).bind fun r0=>(qL R).bind fun r1=>(iL R r1.1 r0.1).bind fun r2=>cond (!r2.1) (some (false,())) ((pX R r1.1 1).bind fun r3=>(rZ R r3.2.1 1).bind fun r4=>cond (decide (r4.1 < 0)) (some (false,())) (cond (!(eqI r4.1 r3.1)) (some (false,())) ((qL R).bind fun r5=>(iL R r5.1 r0.1).bind fun r6=>cond (!r6.1) (some (false,())) ((rZ R r3.2.1 1).bind fun r7=>cond (decide (r7.1 < 0)) (some (false,())) (cond (!(eqI r7.1 r3.1)) (some (false,())) (some (true,())))))))):=by kernel_rfl
theorem A4i (x0 x1 x2:Int):@Eq _ (aV (zF EE R L) x0 x1 x2) (cond (decide (x1≤x0)) (some (decide (x0≤x2),())) (some (false,()))):=by kernel_rfl
theorem AP1 (x0:Int) (x1:FnVal):@Eq _ (lK (zF EE R L) x0 x1) ((kW EE R x1 [⟨(.int .i64),(x0:Int)⟩]).bind fun (r0:Bool)=>some (!r0,())):=by kernel_rfl
theorem kP (x0:List Int) (x1:FnVal):@Eq _ (wS (zF EE R L) x0 x1) (vY R L x0 x1 0 (x0.length:Int) 0):=by kernel_rfl
theorem mS (v0:List Int) (v1:FnVal) (v4 v7 v8:Int):@Eq _ (vY R L v0 v1 v4 v7 v8 ([1,0,1,0]++[0])) (cond (decide (v8 < v7)) (cond (zA v8) (cond (Ab v8.toNat v0.length) ((kW EE R v1 [⟨(.int .i64),(v0.getD v8.toNat 0:Int)⟩]).bind fun (r0:Bool)=>cond r0 (some (v8,())) (zK R L v0 v1 v4 v8 v7 (Aa .i64 (v8+1)))) none) none) (some (-1,()))):=by kernel_rfl
theorem uG (v0:List Int) (v1:FnVal) (v4 v5 v7 v8:Int):@Eq _ (zK R L v0 v1 v4 v5 v7 v8 ([1,0,1,0]++[0])) (cond (decide (v8 < v7)) (cond (zA v8) (cond (Ab v8.toNat v0.length) ((kW EE R v1 [⟨(.int .i64),(v0.getD v8.toNat 0:Int)⟩]).bind fun (r0:Bool)=>cond r0 (some (v8,())) (zK R L v0 v1 v4 v8 v7 (Aa .i64 (v8+1)))) none) none) (some (-1,()))):=by kernel_rfl
theorem mM (x0:List Int) (x1:FnVal):@Eq _ (xP (zF EE R L) x0 x1) ((wS R x0 x1).bind fun r0=>some (decide (0≤r0.1),())):=by kernel_rfl
theorem Ac1 (x0:List Int) (x1:FnVal):@Eq _ (rJ (zF EE R L) x0 x1) ((xP R x0 (FnVal.mk (268:Nat) (FCaps.fn x1 FCaps.nil))).bind fun r0=>some (!r0.1,())):=by kernel_rfl
theorem A4k (x0:Int):@Eq _ (aQ (zF EE R L) x0) ((aV R x0 0 7).bind fun r0=>some (r0.1,())):=by kernel_rfl
theorem A4g (x0:List UInt8) (x1:List Int):@Eq _ (jV (zF EE R L) x0 x1) ((cG R x0 x1).bind fun r0=>some ((r0.1,(r0.1.2.2.1,([],([],([],(true,())))))),())):=by kernel_rfl
theorem A4o (x0:d70):@Eq _ (lC (zF EE R L) x0) ((fY R x0.1).bind fun r0=>(lL R x0.2.1).bind fun r1=>cond (zX (([]:List d66).length+x0.2.2.1.length)) (jE R L (r0.1,(r1.1,([]++x0.2.2.1,x0.2.2.2))) (([],((0,(0,(0,(0,([],([],([],()))))))),(([],([],())),(false,(false,()))))),(([],([],())),([],([],([],(false,())))))) [] 0) none):=by kernel_rfl
theorem A0K (v1 v2:d70) (v3:List (List d68)) (v4:Int):@Eq _ (jE R L v1 v2 v3 v4 ([1,1,1,1,1,0,1,0]++[0])) (cond (decide (v4 < (v1.2.2.2.1.length:Int))) (cond (zA v4) (cond (Ab v4.toNat v1.2.2.2.1.length) ((A4q R (v1.2.2.2.1.getD v4.toNat [])).bind fun r0=>none) none) none) (nT R L (v1.1,(v1.2.1,(v1.2.2.1,(v3,v1.2.2.2.2)))) v2 [] 0)):=by kernel_rfl
theorem A0E (v1 v2:d70) (v5:List d69) (v6:Int):@Eq _ (nT R L v1 v2 v5 v6 ([1,1,1,1,1,1,1,1,0,1,0]++[0])) (cond (decide (v6 < (v1.2.2.2.2.1.length:Int))) (cond (zA v6) (cond (Ab v6.toNat v1.2.2.2.2.1.length) (cond (zA v6) (cond (Ab v6.toNat v1.2.2.2.2.1.length) (cond (zX (([]:List Int).length+(v1.2.2.2.2.1.getD v6.toNat (0,([],()))).2.1.length)) (cond (zX (v5.length+([((v1.2.2.2.2.1.getD v6.toNat (0,([],()))).1,(([]:List Int)++(v1.2.2.2.2.1.getD v6.toNat (0,([],()))).2.1,()))]).length)) (nT R L v1 v2 (v5++[((v1.2.2.2.2.1.getD v6.toNat (0,([],()))).1,([]++(v1.2.2.2.2.1.getD v6.toNat (0,([],()))).2.1,()))]) (Aa .i64 (v6+1))) none) none) none) none) none) none) (some ((v1.1,(v1.2.1,(v1.2.2.1,(v1.2.2.2.1,(v5,v1.2.2.2.2.2))))),()))):=by kernel_rfl
theorem Ax2 (x0:List UInt8) (x1:List Int):@Eq _ (nG (zF EE R L) x0 x1) ((AW2 R x0 x1).bind fun r0=>cond (!(eqI r0.2.1 0)) (some ((([],((0,(0,(0,(0,([],([],([],()))))))),(([],([],())),(false,(false,()))))),(([],([],())),([],([],([],(false,())))))),(r0.2.1,()))) ((lZ R r0.1.2.2.1).bind fun r1=>some ((r0.1,(r1.1,([],([],([],(true,())))))),(0,())))):=by kernel_rfl
theorem fL (x0:List Int):@Eq _ (wO (zF EE R L) x0) (cond (Nat.beq x0.length 0) (At1 (some ([],())) (cond (zX (([]:List Int).length+x0.length)) (some ([]++x0,())) none)) (cond (zX (([]:List Int).length+x0.length)) (some ([]++x0,())) none)):=by kernel_rfl
theorem A4H (x0:List Int) (x1:Int):@Eq _ (pQ (zF EE R L) x0 x1) (cond (zA (Aa .i64 (x1 - (x0.length:Int)))) (cond (zX (Aa .i64 (x1 - (x0.length:Int))).toNat) (cond (zX (x0.length+(Ad (Aa .i64 (x1 - (x0.length:Int))).toNat (0:Int)).length)) ((aA R (x0++(Ad (Aa .i64 (x1 - (x0.length:Int))).toNat 0))).bind fun r0=>some (r0.1,())) none) none) none):=by kernel_rfl
theorem Ae3 (x0:List d67):@Eq _ (oO (zF EE R L) x0) (tO R L [(x0.length:Int)] x0 (x0.length:Int) 0):=by kernel_rfl
theorem cS (v3:List Int) (v9:List d67) (v10 v11:Int):@Eq _ (tO R L v3 v9 v10 v11 ([1,1,0,1,0]++[0])) (cond (decide (v11 < v10)) (cond (zA v11) (cond (Ab v11.toNat v9.length) (cond (zX (v3.length+([(v9.getD v11.toNat (0,(0,(0,())))).1,(v9.getD v11.toNat (0,(0,(0,())))).2.1,(v9.getD v11.toNat (0,(0,(0,())))).2.2.1]).length)) (tO R L (v3++[(v9.getD v11.toNat (0,(0,(0,())))).1,(v9.getD v11.toNat (0,(0,(0,())))).2.1,(v9.getD v11.toNat (0,(0,(0,())))).2.2.1]) v9 v10 (Aa .i64 (v11+1))) none) none) none) (some (v3,()))):=by kernel_rfl
theorem Ar4 (x0:d78) (x1:List d69):@Eq _ (jI (zF EE R L) x0 x1) ((wO R x0.2.1.1).bind fun r0=>(oO R x0.2.1.2.1).bind fun r1=>cond (zX (r0.1.length+r1.1.length)) (cond (zX ((r0.1++r1.1).length+x0.1.length)) (cond (zX (((r0.1++r1.1)++x0.1).length+([(x1.length:Int)]).length)) (sK R L (((r0.1++r1.1)++x0.1)++[(x1.length:Int)]) x1 (x1.length:Int) 0) none) none) none):=by kernel_rfl
theorem bC (v5:List Int) (v26:List d69) (v27 v28:Int):@Eq _ (sK R L v5 v26 v27 v28 ([1,1,1,1,0,1,0]++[0])) (cond (decide (v28 < v27)) (cond (zA v28) (cond (Ab v28.toNat v26.length) (cond (zX (v5.length+([(v26.getD v28.toNat (0,([],()))).1,((v26.getD v28.toNat (0,([],()))).2.1.length:Int)]).length)) (cond (zX ((v5++[(v26.getD v28.toNat (0,([],()))).1,((v26.getD v28.toNat (0,([],()))).2.1.length:Int)]).length+(v26.getD v28.toNat (0,([],()))).2.1.length)) (sK R L ((v5++[(v26.getD v28.toNat (0,([],()))).1,((v26.getD v28.toNat (0,([],()))).2.1.length:Int)])++(v26.getD v28.toNat (0,([],()))).2.1) v26 v27 (Aa .i64 (v28+1))) none) none) none) none) ((pQ R v5 140).bind fun r0=>some (r0.1,()))):=by kernel_rfl
theorem Ae2 (x0:List d67):@Eq _ (oF (zF EE R L) x0) ((oO R x0).bind fun r0=>(pQ R r0.1 7).bind fun r1=>some (r1.1,())):=by kernel_rfl
theorem Az9 (x0:List Int) (x1:Int):@Eq _ (kM (zF EE R L) x0 x1) (cond (zX (x0.length+([Aa .u8 x1,Aa .u8 (Ah x1 (2 ^ (Af (8:Int).toNat (Ac .i64)))),Aa .u8 (Ah x1 (2 ^ (Af (16:Int).toNat (Ac .i64)))),Aa .u8 (Ah x1 (2 ^ (Af (24:Int).toNat (Ac .i64))))]).length)) (some (x0++[Aa .u8 x1,Aa .u8 (Ah x1 (2 ^ (Af (8:Int).toNat (Ac .i64)))),Aa .u8 (Ah x1 (2 ^ (Af (16:Int).toNat (Ac .i64)))),Aa .u8 (Ah x1 (2 ^ (Af (24:Int).toNat (Ac .i64))))],())) none):=by kernel_rfl
theorem A1T (x0:List Int):@Eq _ (hY (zF EE R L) x0) (qI R L x0 [] 0):=by kernel_rfl
theorem AI4 (v0 v3:List Int) (v4:Int):@Eq _ (qI R L v0 v3 v4 ([1,1,0,1,0]++[0])) (cond (decide (v4 < (v0.length:Int))) (cond (zA v4) (cond (Ab v4.toNat v0.length) ((kM R v3 (v0.getD v4.toNat 0)).bind fun r0=>qI R L v0 r0.1 (Aa .i64 (v4+1))) none) none) (some (Ak (fun (n:Int)=>Aj n.toNat) v3,()))):=by kernel_rfl
theorem A14 (x0:List Int) (x1:Int):@Eq _ (tT (zF EE R L) x0 x1) (qJ R L x0 x1):=by kernel_rfl
theorem AN3 (v0:List Int) (v1:Int):@Eq _ (qJ R L v0 v1 ([1,0,0]++[0])) (cond (decide ((v0.length:Int) < v1)) (cond (zX (v0.length+([(0:Int)]).length)) (qJ R L (v0++[0]) v1) none) ((hY R v0).bind fun r0=>some (r0.1,()))):=by kernel_rfl
theorem A0f (x0:d78) (x1:List d69):@Eq _ (gM (zF EE R L) x0 x1) (cond (zX (([]:List Int).length+x0.2.1.1.length)) (cond (zX ((([]:List Int)++x0.2.1.1).length+([(x0.2.1.2.1.length:Int)]).length)) (rH R L x1 x0 (([]++x0.2.1.1)++[(x0.2.1.2.1.length:Int)]) 0) none) none):=by kernel_rfl
theorem AF0 (v1:List d69) (v2:d78) (v5:List Int) (v6:Int):@Eq _ (rH R L v1 v2 v5 v6 ([1,1,1,0,1,0]++[0])) (cond (decide (v6 < (v2.2.1.2.1.length:Int))) (cond (zA v6) (cond (Ab v6.toNat v2.2.1.2.1.length) (cond (zA v6) (cond (Ab v6.toNat v2.2.1.2.1.length) (cond (zA v6) (cond (Ab v6.toNat v2.2.1.2.1.length) (cond (zX (v5.length+([(v2.2.1.2.1.getD v6.toNat (0,(0,(0,())))).1,(v2.2.1.2.1.getD v6.toNat (0,(0,(0,())))).2.1,(v2.2.1.2.1.getD v6.toNat (0,(0,(0,())))).2.2.1]).length)) (rH R L v1 v2 (v5++[(v2.2.1.2.1.getD v6.toNat (0,(0,(0,())))).1,(v2.2.1.2.1.getD v6.toNat (0,(0,(0,())))).2.1,(v2.2.1.2.1.getD v6.toNat (0,(0,(0,())))).2.2.1]) (Aa .i64 (v6+1))) none) none) none) none) none) none) none) (cond (zX (v5.length+v2.1.length)) (cond (zX ((v5++v2.1).length+([(v1.length:Int)]).length)) (tW R L v1 ((v5++v2.1)++[(v1.length:Int)]) 0) none) none)):=by kernel_rfl
theorem AF6 (v1:List d69) (v5:List Int) (v7:Int):@Eq _ (tW R L v1 v5 v7 ([1,1,1,1,1,1,0,1,0]++[0])) (cond (decide (v7 < (v1.length:Int))) (cond (zA v7) (cond (Ab v7.toNat v1.length) (cond (zA v7) (cond (Ab v7.toNat v1.length) (cond (zX (v5.length+([(v1.getD v7.toNat (0,([],()))).1,((v1.getD v7.toNat (0,([],()))).2.1.length:Int)]).length)) (cond (zA v7) (cond (Ab v7.toNat v1.length) (cond (zX ((v5++[(v1.getD v7.toNat (0,([],()))).1,((v1.getD v7.toNat (0,([],()))).2.1.length:Int)]).length+(v1.getD v7.toNat (0,([],()))).2.1.length)) (tW R L v1 ((v5++[(v1.getD v7.toNat (0,([],()))).1,((v1.getD v7.toNat (0,([],()))).2.1.length:Int)])++(v1.getD v7.toNat (0,([],()))).2.1) (Aa .i64 (v7+1))) none) none) none) none) none) none) none) none) ((tT R v5 140).bind fun r0=>some (r0.1,()))):=by kernel_rfl
theorem Ao3 (x0:List d67):@Eq _ (mH (zF EE R L) x0) (sM R L x0 [(x0.length:Int)] 0):=by kernel_rfl
theorem bD (v0:List d67) (v3:List Int) (v4:Int):@Eq _ (sM R L v0 v3 v4 ([1,1,0,1,0]++[0])) (cond (decide (v4 < (v0.length:Int))) (cond (zA v4) (cond (Ab v4.toNat v0.length) (cond (zA v4) (cond (Ab v4.toNat v0.length) (cond (zA v4) (cond (Ab v4.toNat v0.length) (cond (zX (v3.length+([(v0.getD v4.toNat (0,(0,(0,())))).1,(v0.getD v4.toNat (0,(0,(0,())))).2.1,(v0.getD v4.toNat (0,(0,(0,())))).2.2.1]).length)) (sM R L v0 (v3++[(v0.getD v4.toNat (0,(0,(0,())))).1,(v0.getD v4.toNat (0,(0,(0,())))).2.1,(v0.getD v4.toNat (0,(0,(0,())))).2.2.1]) (Aa .i64 (v4+1))) none) none) none) none) none) none) none) ((tT R v3 7).bind fun r0=>some (r0.1,()))):=by kernel_rfl
theorem Az4:@Eq _ (aC (zF EE R L)) (some ([1779033703,3144134277,1013904242,2773480762,1359893119,2600822924,528734635,1541459225],())):=by kernel_rfl
theorem A2B:@Eq _ (cA (zF EE R L)) ((aC R).bind fun r0=>some ((r0.1,([],(0,()))),())):=by kernel_rfl
theorem A1M (x0:List UInt8) (x1:Int):@Eq _ (cI (zF EE R L) x0 x1) (cond (zA x1) (cond (Ab x1.toNat x0.length) (cond (zA (Aa .i64 (x1+1))) (cond (Ab (Aa .i64 (x1+1)).toNat x0.length) (cond (zA (Aa .i64 (x1+2))) (cond (Ab (Aa .i64 (x1+2)).toNat x0.length) (cond (zA (Aa .i64 (x1+3))) (cond (Ab (Aa .i64 (x1+3)).toNat x0.length) (some (yU .or .i64 (yU .or .i64 (yU .or .i64 (Aa .i64 ((Aa .i64 (Ag (x0.getD x1.toNat 0):Int)) * (2 ^ (Af (24:Int).toNat (Ac .i64))))) (Aa .i64 ((Aa .i64 (Ag (x0.getD (Aa .i64 (x1+1)).toNat 0):Int)) * (2 ^ (Af (16:Int).toNat (Ac .i64)))))) (Aa .i64 ((Aa .i64 (Ag (x0.getD (Aa .i64 (x1+2)).toNat 0):Int)) * (2 ^ (Af (8:Int).toNat (Ac .i64)))))) (Aa .i64 (Ag (x0.getD (Aa .i64 (x1+3)).toNat 0):Int)),())) none) none) none) none) none) none) none) none):=by kernel_rfl
theorem A0R (x0 x1:Int):@Eq _ (yC (zF EE R L) x0 x1) (cond (decide (x1 < 0)) none (cond (decide ((Aa .i64 (32 - x1)) < 0)) none (some (yU .and .i64 (yU .or .i64 (Ah x0 (2 ^ (Af x1.toNat (Ac .i64)))) (Aa .i64 (x0 * (2 ^ (Af (Aa .i64 (32 - x1)).toNat (Ac .i64)))))) 4294967295,())))):=by kernel_rfl
theorem Ax3:@Eq _ (bZ (zF EE R L)) (some ([1116352408,1899447441,3049323471,3921009573,961987163,1508970993,2453635748,2870763221,3624381080,310598401,607225278,1426881987,1925078388,2162078206,2614888103,3248222580,3835390401,4022224774,264347078,604807628,770255983,1249150122,1555081692,1996064986,2554220882,2821834349,2952996808,3210313671,3336571891,3584528711,113926993,338241895,666307205,773529912,1294757372,1396182291,1695183700,1986661051,2177026350,2456956037,2730485921,2820302411,3259730800,3345764771,3516065817,3600352804,4094571909,275423344,430227734,506948616,659060556,883997877,958139571,1322822218,1537002063,1747873779,1955562222,2024104815,2227730452,2361852424,2428436474,2756734187,3204031479,3329325298],())):=by kernel_rfl
theorem A0T (x0:List Int) (x1:List UInt8):@Eq _ (fC (zF EE R L) x0 x1) (vI R L x1 x0 (Ad 8 0) [0,0,0,0,0,0,0,0,0,0,0,0,0,0,0,0,0,0,0,0,0,0,0,0,0,0,0,0,0,0,0,0,0,0,0,0,0,0,0,0,0,0,0,0,0,0,0,0,0,0,0,0,0,0,0,0,0,0,0,0,0,0,0,0] 0):=by kernel_rfl
theorem AC7 (v1:List UInt8) (v2 v4 v5:List Int) (v6:Int):@Eq _ (vI R L v1 v2 v4 v5 v6 ([1,1,0,1,0]++[0])) (cond (decide (v6 < 16)) ((cI R v1 (Aa .i64 (4 * v6))).bind fun r0=>cond (zA v6) (cond (Ab v6.toNat 64) (vI R L v1 v2 v4 (v5.set v6.toNat r0.1) (Aa .i64 (v6+1))) none) none) (xD R L v2 v4 v5 16)):=by kernel_rfl
theorem AE0 (v2 v4 v5:List Int) (v7:Int):@Eq _ (xD R L v2 v4 v5 v7 ([1,1,1,0,1,0]++[0])) (cond (decide (v7 < 64)) (cond (zA (Aa .i64 (v7 - 15))) (cond (Ab (Aa .i64 (v7 - 15)).toNat 64) ((yC R (v5.getD (Aa .i64 (v7 - 15)).toNat 0) 7).bind fun r0=>cond (zA (Aa .i64 (v7 - 15))) (cond (Ab (Aa .i64 (v7 - 15)).toNat 64) ((yC R (v5.getD (Aa .i64 (v7 - 15)).toNat 0) 18).bind fun r1=>cond (zA (Aa .i64 (v7 - 15))) (cond (Ab (Aa .i64 (v7 - 15)).toNat 64) (cond (zA (Aa .i64 (v7 - 2))) (cond (Ab (Aa .i64 (v7 - 2)).toNat 64) ((yC R (v5.getD (Aa .i64 (v7 - 2)).toNat 0) 17).bind fun r2=>cond (zA (Aa .i64 (v7 - 2))) (cond (Ab (Aa .i64 (v7 - 2)).toNat 64) ((yC R (v5.getD (Aa .i64 (v7 - 2)).toNat 0) 19).bind fun r3=>cond (zA (Aa .i64 (v7 - 2))) (cond (Ab (Aa .i64 (v7 - 2)).toNat 64) (cond (zA (Aa .i64 (v7 - 16))) (cond (Ab (Aa .i64 (v7 - 16)).toNat 64) (cond (zA (Aa .i64 (v7 - 7))) (cond (Ab (Aa .i64 (v7 - 7)).toNat 64) (cond (zA v7) (cond (Ab v7.toNat 64) (xD R L v2 v4 (v5.set v7.toNat (yU .and .i64 (Aa .i64 ((Aa .i64 ((Aa .i64 ((v5.getD (Aa .i64 (v7 - 16)).toNat 0)+(yU .xor .i64 (yU .xor .i64 r0.1 r1.1) (Ah (v5.getD (Aa .i64 (v7 - 15)).toNat 0) (2 ^ (Af (3:Int).toNat (Ac .i64)))))))+(v5.getD (Aa .i64 (v7 - 7)).toNat 0)))+(yU .xor .i64 (yU .xor .i64 r2.1 r3.1) (Ah (v5.getD (Aa .i64 (v7 - 2)).toNat 0) (2 ^ (Af (10:Int).toNat (Ac .i64))))))) 4294967295)) (Aa .i64 (v7+1))) none) none) none) none) none) none) none) none) none) none) none) none) none) none) none) none) none) none) ((bZ R).bind fun r0=>xL R L v2 v4 v5 r0.1 v2 0)):=by kernel_rfl
theorem AD2 (v2 v4 v5 v10 v11:List Int) (v12:Int):@Eq _ (xL R L v2 v4 v5 v10 v11 v12 ([1,1,1,1,1,1,0,1,0]++[0])) (cond (decide (v12 < 64)) ((yC R (v11.getD (4:Int).toNat 0) 6).bind fun r0=>(yC R (v11.getD (4:Int).toNat 0) 11).bind fun r1=>(yC R (v11.getD (4:Int).toNat 0) 25).bind fun r2=>cond (zA v12) (cond (Ab v12.toNat 64) (cond (zA v12) (cond (Ab v12.toNat 64) ((yC R (v11.getD (0:Int).toNat 0) 2).bind fun r3=>(yC R (v11.getD (0:Int).toNat 0) 13).bind fun r4=>(yC R (v11.getD (0:Int).toNat 0) 22).bind fun r5=>xL R L v2 v4 v5 v10 [yU .and .i64 (Aa .i64 ((Aa .i64 ((Aa .i64 ((Aa .i64 ((Aa .i64 ((Aa .i64 ((v11.getD (7:Int).toNat 0)+(yU .xor .i64 (yU .xor .i64 r0.1 r1.1) r2.1)))+(yU .xor .i64 (yU .and .i64 (v11.getD (4:Int).toNat 0) (v11.getD (5:Int).toNat 0)) (yU .and .i64 (yU .xor .i64 4294967295 (v11.getD (4:Int).toNat 0)) (v11.getD (6:Int).toNat 0)))))+(v10.getD v12.toNat 0)))+(v5.getD v12.toNat 0)))+(yU .xor .i64 (yU .xor .i64 r3.1 r4.1) r5.1)))+(yU .xor .i64 (yU .xor .i64 (yU .and .i64 (v11.getD (0:Int).toNat 0) (v11.getD (1:Int).toNat 0)) (yU .and .i64 (v11.getD (0:Int).toNat 0) (v11.getD (2:Int).toNat 0))) (yU .and .i64 (v11.getD (1:Int).toNat 0) (v11.getD (2:Int).toNat 0))))) 4294967295,v11.getD (0:Int).toNat 0,v11.getD (1:Int).toNat 0,v11.getD (2:Int).toNat 0,yU .and .i64 (Aa .i64 ((v11.getD (3:Int).toNat 0)+(Aa .i64 ((Aa .i64 ((Aa .i64 ((Aa .i64 ((v11.getD (7:Int).toNat 0)+(yU .xor .i64 (yU .xor .i64 r0.1 r1.1) r2.1)))+(yU .xor .i64 (yU .and .i64 (v11.getD (4:Int).toNat 0) (v11.getD (5:Int).toNat 0)) (yU .and .i64 (yU .xor .i64 4294967295 (v11.getD (4:Int).toNat 0)) (v11.getD (6:Int).toNat 0)))))+(v10.getD v12.toNat 0)))+(v5.getD v12.toNat 0))))) 4294967295,v11.getD (4:Int).toNat 0,v11.getD (5:Int).toNat 0,v11.getD (6:Int).toNat 0] (Aa .i64 (v12+1))) none) none) none) none) (xS R L v2 v4 v11 0)):=by kernel_rfl
theorem AF7 (v2 v4 v11:List Int) (v18:Int):@Eq _ (xS R L v2 v4 v11 v18 ([1,1,1,1,1,1,1,0,1,0]++[0])) (cond (decide (v18 < 8)) (cond (zA v18) (cond (Ab v18.toNat 8) (cond (zA v18) (cond (Ab v18.toNat 8) (cond (zA v18) (cond (Ab v18.toNat 8) (xS R L (v2.set v18.toNat (yU .and .i64 (Aa .i64 ((v2.getD v18.toNat 0)+(v11.getD v18.toNat 0))) 4294967295)) v4 v11 (Aa .i64 (v18+1))) none) none) none) none) none) none) (some (v2,()))):=by kernel_rfl
theorem A1h (x0:d79) (x1:List UInt8):@Eq _ (oW (zF EE R L) x0 x1) (cond (zX (x0.2.1.length+x1.length)) (rB R L (x0.1,(x0.2.1++x1,(Aa .i64 (x0.2.2.1+(x1.length:Int)),x0.2.2.2))) (Ad 8 0,([],(0,())))) none):=by kernel_rfl
theorem AJ6 (v2 v4:d79):@Eq _ (rB R L v2 v4 ([1,1,1,0,0]++[0])) (cond (decide (64≤(v2.2.1.length:Int))) ((fC R v2.1 v2.2.1).bind fun r0=>cond (Au v2.2.1.length v2.2.1.length) (cond (Au (64:Int).toNat v2.2.1.length) (rB R L (r0.1,(Av (64:Int).toNat (Ax v2.2.1.length v2.2.1),v2.2.2)) v4) none) none) (some (v2,()))):=by kernel_rfl
theorem A4G (x0:d79):@Eq _ (AA9 (zF EE R L) x0) (rX R L x0 (Aa .i64 (8 * x0.2.2.1)) [128]):=by kernel_rfl
theorem AT5 (v1:d79) (v3:Int) (v4:List Int):@Eq _ (rX R L v1 v3 v4 ([1,1,1,0,0]++[0])) (cond (!(eqI (Ae (Aa .i64 (v1.2.2.1+(v4.length:Int))) 64) 56)) (cond (zX (v4.length+([(0:Int)]).length)) (rX R L v1 v3 (v4++[0])) none) (wQ R L v1 v3 v4 7)):=by kernel_rfl
theorem AT8 (v1:d79) (v3:Int) (v4:List Int) (v5:Int):@Eq _ (wQ R L v1 v3 v4 v5 ([1,1,1,1,0,1,0]++[0])) (cond (decide (0≤v5)) (cond (decide ((Aa .i64 (8 * v5)) < 0)) none (cond (zX (v4.length+([Aa .u8 (Ah v3 (2 ^ (Af (Aa .i64 (8 * v5)).toNat (Ac .i64))))]).length)) (wQ R L v1 v3 (v4++[Aa .u8 (Ah v3 (2 ^ (Af (Aa .i64 (8 * v5)).toNat (Ac .i64))))]) (Aa .i64 (v5 - 1))) none)) ((oW R v1 (Ak (fun (n:Int)=>Aj n.toNat) v4)).bind fun r0=>wR R L r0.1 [] 0)):=by kernel_rfl
theorem AS5 (v1:d79) (v6:List Int) (v7:Int):@Eq _ (wR R L v1 v6 v7 ([1,1,1,1,1,1,1,0,1,0]++[0])) (cond (decide (v7 < 8)) (uK R L v1 v6 v7 3) (some (Ak (fun (n:Int)=>Aj n.toNat) v6,()))):=by kernel_rfl
theorem AR5 (v1:d79) (v6:List Int) (v7 v8:Int):@Eq _ (uK R L v1 v6 v7 v8 ([1,1,1,1,1,1,1,0,1,0,0,1,0,0,1,0]++[0])) (cond (decide (0≤v8)) (cond (zA v7) (cond (Ab v7.toNat 8) (cond (decide ((Aa .i64 (8 * v8)) < 0)) none (cond (zX (v6.length+([Aa .u8 (Ah (v1.1.getD v7.toNat 0) (2 ^ (Af (Aa .i64 (8 * v8)).toNat (Ac .i64))))]).length)) (uK R L v1 (v6++[Aa .u8 (Ah (v1.1.getD v7.toNat 0) (2 ^ (Af (Aa .i64 (8 * v8)).toNat (Ac .i64))))]) v7 (Aa .i64 (v8 - 1))) none)) none) none) (wR R L v1 v6 (Aa .i64 (v7+1)))):=by kernel_rfl
theorem A5X (x0:List UInt8):@Eq _ (gB (zF EE R L) x0) ((cA R).bind fun r0=>(oW R r0.1 x0).bind fun r1=>(AA9 R r1.1).bind fun r2=>some (r2.1,())):=by kernel_rfl
theorem A2Q:@Eq _ (AG8 (zF EE R L)) (some (([1779033703,3144134277,1013904242,2773480762,1359893119,2600822924,528734635,1541459225],([],(0,()))),())):=by kernel_rfl
theorem An9:@Eq _ (dC (zF EE R L)) (some ([1116352408,1899447441,3049323471,3921009573,961987163,1508970993,2453635748,2870763221,3624381080,310598401,607225278,1426881987,1925078388,2162078206,2614888103,3248222580,3835390401,4022224774,264347078,604807628,770255983,1249150122,1555081692,1996064986,2554220882,2821834349,2952996808,3210313671,3336571891,3584528711,113926993,338241895,666307205,773529912,1294757372,1396182291,1695183700,1986661051,2177026350,2456956037,2730485921,2820302411,3259730800,3345764771,3516065817,3600352804,4094571909,275423344,430227734,506948616,659060556,883997877,958139571,1322822218,1537002063,1747873779,1955562222,2024104815,2227730452,2361852424,2428436474,2756734187,3204031479,3329325298],())):=by kernel_rfl
theorem nK (x0 x1:Int):@Eq _ (yM (zF EE R L) x0 x1) (cond (decide ((Aa .u64 (32 - (yU .and .u64 (Aa .u64 x1) 31))) < 0)) none (some (yU .or .u32 (Aa .u32 (x0 * (2 ^ (Af (yU .and .u64 (Aa .u64 x1) 31).toNat (Ac .u32))))) (Ah x0 (2 ^ (Af (Aa .u64 (32 - (yU .and .u64 (Aa .u64 x1) 31))).toNat (Ac .u32)))),()))):=by kernel_rfl
theorem A4c (x0 x1:Int):@Eq _ (xB (zF EE R L) x0 x1) ((yM R x0 (BE9 .i64 x1)).bind fun r0=>some (r0.1,())):=by kernel_rfl
theorem AJ7 (x0:d79) (x1:List UInt8) (x2:List Int):@Eq _ (qP (zF EE R L) x0 x1 x2) (yR R L x0 x1 x2 (Ad 64 0) 0):=by kernel_rfl
theorem kQ (v0:d79) (v1:List UInt8) (v2 v6:List Int) (v25:Int):@Eq _ (yR R L v0 v1 v2 v6 v25 ([1,0,1,0]++[0])) (cond (decide (v25 < 16)) (cond (zA (Aa .i64 (4 * v25))) (cond (Ab (Aa .i64 (4 * v25)).toNat v1.length) (cond (zA (Aa .i64 ((Aa .i64 (4 * v25))+1))) (cond (Ab (Aa .i64 ((Aa .i64 (4 * v25))+1)).toNat v1.length) (cond (zA (Aa .i64 ((Aa .i64 (4 * v25))+2))) (cond (Ab (Aa .i64 ((Aa .i64 (4 * v25))+2)).toNat v1.length) (cond (zA (Aa .i64 ((Aa .i64 (4 * v25))+3))) (cond (Ab (Aa .i64 ((Aa .i64 (4 * v25))+3)).toNat v1.length) (cond (zA v25) (cond (Ab v25.toNat 64) (yR R L v0 v1 v2 (v6.set v25.toNat (yU .or .u32 (yU .or .u32 (yU .or .u32 (Aa .u32 ((Aa .u32 (Ag (v1.getD (Aa .i64 (4 * v25)).toNat 0):Int)) * (2 ^ (Af (24:Int).toNat (Ac .u32))))) (Aa .u32 ((Aa .u32 (Ag (v1.getD (Aa .i64 ((Aa .i64 (4 * v25))+1)).toNat 0):Int)) * (2 ^ (Af (16:Int).toNat (Ac .u32)))))) (Aa .u32 ((Aa .u32 (Ag (v1.getD (Aa .i64 ((Aa .i64 (4 * v25))+2)).toNat 0):Int)) * (2 ^ (Af (8:Int).toNat (Ac .u32)))))) (Aa .u32 (Ag (v1.getD (Aa .i64 ((Aa .i64 (4 * v25))+3)).toNat 0):Int)))) (Aa .i64 (v25+1))) none) none) none) none) none) none) none) none) none) none) (zP R L v0 v2 v6 16)):=by kernel_rfl
theorem kX (v0:d79) (v2 v6:List Int) (v8:Int):@Eq _ (zP R L v0 v2 v6 v8 ([1,1,0,1,0]++[0])) (cond (decide (v8 < 64)) (cond (zA (Aa .i64 (v8 - 15))) (cond (Ab (Aa .i64 (v8 - 15)).toNat 64) (cond (zA (Aa .i64 (v8 - 2))) (cond (Ab (Aa .i64 (v8 - 2)).toNat 64) (cond (zA (Aa .i64 (v8 - 16))) (cond (Ab (Aa .i64 (v8 - 16)).toNat 64) ((xB R (v6.getD (Aa .i64 (v8 - 15)).toNat 0) 7).bind fun r0=>(xB R (v6.getD (Aa .i64 (v8 - 15)).toNat 0) 18).bind fun r1=>cond (zA (Aa .i64 (v8 - 7))) (cond (Ab (Aa .i64 (v8 - 7)).toNat 64) ((xB R (v6.getD (Aa .i64 (v8 - 2)).toNat 0) 17).bind fun r2=>(xB R (v6.getD (Aa .i64 (v8 - 2)).toNat 0) 19).bind fun r3=>cond (zA v8) (cond (Ab v8.toNat 64) (zP R L v0 v2 (v6.set v8.toNat (Aa .u32 ((Aa .u32 ((Aa .u32 ((v6.getD (Aa .i64 (v8 - 16)).toNat 0)+(yU .xor .u32 (yU .xor .u32 r0.1 r1.1) (Ah (v6.getD (Aa .i64 (v8 - 15)).toNat 0) (2 ^ (Af (3:Int).toNat (Ac .u32)))))))+(v6.getD (Aa .i64 (v8 - 7)).toNat 0)))+(yU .xor .u32 (yU .xor .u32 r2.1 r3.1) (Ah (v6.getD (Aa .i64 (v8 - 2)).toNat 0) (2 ^ (Af (10:Int).toNat (Ac .u32)))))))) (Aa .i64 (v8+1))) none) none) none) none) none) none) none) none) none) none) (zS R L v0 v2 v6 (Ad 8 0) v0.1 0)):=by kernel_rfl
theorem kR (v0:d79) (v2 v6 v11 v104:List Int) (v105:Int):@Eq _ (zS R L v0 v2 v6 v11 v104 v105 ([1,1,1,1,0,1,0]++[0])) (cond (decide (v105 < 8)) (cond (zA v105) (cond (Ab v105.toNat 8) (cond (zA v105) (cond (Ab v105.toNat 8) (zS R L v0 v2 v6 (v11.set v105.toNat (Aa .u32 (v104.getD v105.toNat 0))) v104 (Aa .i64 (v105+1))) none) none) none) none) (yB R L v0 v2 v6 v11 0)):=by kernel_rfl
theorem kU (v0:d79) (v2 v6 v11:List Int) (v114:Int):@Eq _ (yB R L v0 v2 v6 v11 v114 ([1,1,1,1,1,0,1,0]++[0])) (cond (decide (v114 < 64)) ((xB R (v11.getD (4:Int).toNat 0) 6).bind fun r0=>(xB R (v11.getD (4:Int).toNat 0) 11).bind fun r1=>(xB R (v11.getD (4:Int).toNat 0) 25).bind fun r2=>cond (zA v114) (cond (Ab v114.toNat 64) (cond (zA v114) (cond (Ab v114.toNat 64) ((xB R (v11.getD (0:Int).toNat 0) 2).bind fun r3=>(xB R (v11.getD (0:Int).toNat 0) 13).bind fun r4=>(xB R (v11.getD (0:Int).toNat 0) 22).bind fun r5=>yB R L v0 v2 v6 [Aa .u32 ((Aa .u32 ((Aa .u32 ((Aa .u32 ((Aa .u32 ((v11.getD (7:Int).toNat 0)+(yU .xor .u32 (yU .xor .u32 r0.1 r1.1) r2.1)))+(yU .xor .u32 (yU .and .u32 (v11.getD (4:Int).toNat 0) (v11.getD (5:Int).toNat 0)) (yU .and .u32 (yU .xor .u32 ((2 ^ (Ac .u32)) - 1) (v11.getD (4:Int).toNat 0)) (v11.getD (6:Int).toNat 0)))))+(v2.getD v114.toNat 0)))+(v6.getD v114.toNat 0)))+(Aa .u32 ((yU .xor .u32 (yU .xor .u32 r3.1 r4.1) r5.1)+(yU .xor .u32 (yU .xor .u32 (yU .and .u32 (v11.getD (0:Int).toNat 0) (v11.getD (1:Int).toNat 0)) (yU .and .u32 (v11.getD (0:Int).toNat 0) (v11.getD (2:Int).toNat 0))) (yU .and .u32 (v11.getD (1:Int).toNat 0) (v11.getD (2:Int).toNat 0)))))),v11.getD (0:Int).toNat 0,v11.getD (1:Int).toNat 0,v11.getD (2:Int).toNat 0,Aa .u32 ((v11.getD (3:Int).toNat 0)+(Aa .u32 ((Aa .u32 ((Aa .u32 ((Aa .u32 ((v11.getD (7:Int).toNat 0)+(yU .xor .u32 (yU .xor .u32 r0.1 r1.1) r2.1)))+(yU .xor .u32 (yU .and .u32 (v11.getD (4:Int).toNat 0) (v11.getD (5:Int).toNat 0)) (yU .and .u32 (yU .xor .u32 ((2 ^ (Ac .u32)) - 1) (v11.getD (4:Int).toNat 0)) (v11.getD (6:Int).toNat 0)))))+(v2.getD v114.toNat 0)))+(v6.getD v114.toNat 0)))),v11.getD (4:Int).toNat 0,v11.getD (5:Int).toNat 0,v11.getD (6:Int).toNat 0] (Aa .i64 (v114+1))) none) none) none) none) (yA R L v0 v11 0)):=by kernel_rfl
theorem kZ (v0:d79) (v194:List Int) (v195:Int):@Eq _ (yA R L v0 v194 v195 ([1,1,1,1,1,1,1,0]++[0])) (cond (decide (v195 < 8)) (cond (zA v195) (cond (Ab v195.toNat 8) (cond (zA v195) (cond (Ab v195.toNat 8) (cond (zA v195) (cond (Ab v195.toNat 8) (yA R L (v0.1.set v195.toNat (Aa .i64 (Aa .u32 ((Aa .u32 (v0.1.getD v195.toNat 0))+(v194.getD v195.toNat 0)))),v0.2) v194 (Aa .i64 (v195+1))) none) none) none) none) none) none) (some (v0,()))):=by kernel_rfl
theorem As4 (x0:d79) (x1:List UInt8):@Eq _ (rY (zF EE R L) x0 x1) ((dC R).bind fun r0=>cond (zX (x0.2.1.length+x1.length)) (tA R L (x0.2.1++x1) (x0.1,(x0.2.1,(Aa .i64 (x0.2.2.1+(x1.length:Int)),x0.2.2.2))) (Ad 8 0,([],(0,()))) r0.1) none):=by kernel_rfl
theorem bG (v1:List UInt8) (v2 v4:d79) (v5:List Int):@Eq _ (tA R L v1 v2 v4 v5 ([1,1,1,1,0,0]++[0])) (cond (decide (64≤(v1.length:Int))) (cond (Au (64:Int).toNat v1.length) ((qP R v2 (Av 0 (Ax (64:Int).toNat v1)) v5).bind fun r0=>cond (Au v1.length v1.length) (cond (Au (64:Int).toNat v1.length) (tA R L (Av (64:Int).toNat (Ax v1.length v1)) r0.1 v4 v5) none) none) none) (some ((v2.1,(v1,v2.2.2)),()))):=by kernel_rfl
theorem Ax9 (x0:d79):@Eq _ (gX (zF EE R L) x0) ((qE R [0] (Ae (Aa .i64 (119 - (x0.2.1.length:Int))) 64)).bind fun r0=>cond (zX (([(128:UInt8)]).length+r0.1.length)) (xK R L x0 (Aa .i64 (8 * x0.2.2.1)) ([128]++r0.1) 7) none):=by kernel_rfl
theorem AE6 (v1:d79) (v3:Int) (v4:List UInt8) (v5:Int):@Eq _ (xK R L v1 v3 v4 v5 ([1,1,1,0,1,0]++[0])) (cond (decide (0≤v5)) (cond (decide ((Aa .i64 (8 * v5)) < 0)) none (cond (zX (v4.length+(Ak (fun (n:Int)=>Aj n.toNat) [Aa .u8 (Ah v3 (2 ^ (Af (Aa .i64 (8 * v5)).toNat (Ac .i64))))]).length)) (xK R L v1 v3 (v4++(Ak (fun (n:Int)=>Aj n.toNat) [Aa .u8 (Ah v3 (2 ^ (Af (Aa .i64 (8 * v5)).toNat (Ac .i64))))])) (Aa .i64 (v5 - 1))) none)) ((rY R v1 v4).bind fun r0=>wK R L [] r0.1.1 0)):=by kernel_rfl
theorem AD8 (v6 v35:List Int) (v36:Int):@Eq _ (wK R L v6 v35 v36 ([1,1,1,1,1,0,1,0]++[0])) (cond (decide (v36 < 8)) (cond (zA v36) (cond (Ab v36.toNat 8) (cond (zX (v6.length+([Aa .u8 (Ah (v35.getD v36.toNat 0) (2 ^ (Af (24:Int).toNat (Ac .i64)))),Aa .u8 (Ah (v35.getD v36.toNat 0) (2 ^ (Af (16:Int).toNat (Ac .i64)))),Aa .u8 (Ah (v35.getD v36.toNat 0) (2 ^ (Af (8:Int).toNat (Ac .i64)))),Aa .u8 (v35.getD v36.toNat 0)]).length)) (wK R L (v6++[Aa .u8 (Ah (v35.getD v36.toNat 0) (2 ^ (Af (24:Int).toNat (Ac .i64)))),Aa .u8 (Ah (v35.getD v36.toNat 0) (2 ^ (Af (16:Int).toNat (Ac .i64)))),Aa .u8 (Ah (v35.getD v36.toNat 0) (2 ^ (Af (8:Int).toNat (Ac .i64)))),Aa .u8 (v35.getD v36.toNat 0)]) v35 (Aa .i64 (v36+1))) none) none) none) (some (Ak (fun (n:Int)=>Aj n.toNat) v6,()))):=by kernel_rfl
theorem A43 (x0:List UInt8):@Eq _ (lA (zF EE R L) x0) ((AG8 R).bind fun r0=>(rY R r0.1 x0).bind fun r1=>(gX R r1.1).bind fun r2=>some (r2.1,())):=by kernel_rfl
theorem A4n (x0 x1:Int):@Eq _ (wI (zF EE R L) x0 x1) (tE R L x0 [] x1 0):=by kernel_rfl
theorem AU1 (v0:Int) (v5:List Int) (v7 v8:Int):@Eq _ (tE R L v0 v5 v7 v8 ([1,1,0,1,0]++[0])) (cond (decide (v8 < v7)) (cond (decide ((Aa .i64 (8 * v8)) < 0)) none (cond (zX (v5.length+([Aa .u8 (Ah v0 (2 ^ (Af (Aa .i64 (8 * v8)).toNat (Ac .i64))))]).length)) (tE R L v0 (v5++[Aa .u8 (Ah v0 (2 ^ (Af (Aa .i64 (8 * v8)).toNat (Ac .i64))))]) v7 (Aa .i64 (v8+1))) none)) (some (Ak (fun (n:Int)=>Aj n.toNat) v5,()))):=by kernel_rfl
theorem Af4 (x0:List UInt8):@Eq _ (lT (zF EE R L) x0) (cond (Ab (0:Int).toNat x0.length) (cond (Ab (1:Int).toNat x0.length) (cond (Ab (2:Int).toNat x0.length) (cond (Ab (3:Int).toNat x0.length) (some (yU .or .u32 (yU .or .u32 (yU .or .u32 (Aa .u32 (Ag (x0.getD (0:Int).toNat 0):Int)) (Aa .u32 ((Aa .u32 (Ag (x0.getD (1:Int).toNat 0):Int)) * (2 ^ (Af (8:Int).toNat (Ac .u32)))))) (Aa .u32 ((Aa .u32 (Ag (x0.getD (2:Int).toNat 0):Int)) * (2 ^ (Af (16:Int).toNat (Ac .u32)))))) (Aa .u32 ((Aa .u32 (Ag (x0.getD (3:Int).toNat 0):Int)) * (2 ^ (Af (24:Int).toNat (Ac .u32))))),())) none) none) none) none):=by kernel_rfl
theorem A06 (x0 x1 x2 x3:Int):@Eq _ (cH (zF EE R L) x0 x1 x2 x3) (uL R L x0 x1 x2 x3 [[16,12],[8,7]] 0):=by kernel_rfl
theorem AI8 (v0 v1 v2 v3:Int) (v16:List (List Int)) (v17:Int):@Eq _ (uL R L v0 v1 v2 v3 v16 v17 ([1,0,1,0]++[0])) (cond (decide (v17 < 2)) (cond (zA v17) (cond (Ab v17.toNat 2) ((yM R (yU .xor .u32 v3 (Aa .u32 (v0+v1))) ((v16.getD v17.toNat (Ad 2 0)).getD (0:Int).toNat 0)).bind fun r0=>(yM R (yU .xor .u32 v1 (Aa .u32 (v2+r0.1))) ((v16.getD v17.toNat (Ad 2 0)).getD (1:Int).toNat 0)).bind fun r1=>uL R L (Aa .u32 (v0+v1)) r1.1 (Aa .u32 (v2+r0.1)) r0.1 v16 (Aa .i64 (v17+1))) none) none) (some (v0,(v1,(v2,(v3,())))))):=by kernel_rfl
theorem A4I (x0 x1:List UInt8) (x2:Int):@Eq _ (eA (zF EE R L) x0 x1 x2) (cond (zX (([(101:UInt8),120,112,97,110,100,32,51,50,45,98,121,116,101,32,107]).length+x0.length)) ((wI R x2 4).bind fun r0=>cond (zX (([(101:UInt8),120,112,97,110,100,32,51,50,45,98,121,116,101,32,107]++x0).length+r0.1.length)) (cond (zX ((([(101:UInt8),120,112,97,110,100,32,51,50,45,98,121,116,101,32,107]++x0)++r0.1).length+x1.length)) (uI R L ((([101,120,112,97,110,100,32,51,50,45,98,121,116,101,32,107]++x0)++r0.1)++x1) (Ad 16 0) (Ad 16 0) 0) none) none) none):=by kernel_rfl
theorem AR8 (v7:List UInt8) (v8 v9:List Int) (v25:Int):@Eq _ (uI R L v7 v8 v9 v25 ([1,1,1,0,1,0]++[0])) (cond (decide (v25 < 16)) (cond (zA (Aa .i64 (4 * v25))) (cond (Au v7.length v7.length) (cond (Au (Aa .i64 (4 * v25)).toNat v7.length) ((lT R (Av (Aa .i64 (4 * v25)).toNat (Ax v7.length v7))).bind fun r0=>cond (zA v25) (cond (Ab v25.toNat 16) (cond (zA v25) (cond (Ab v25.toNat 16) (cond (zA v25) (cond (Ab v25.toNat 16) (uI R L v7 (v8.set v25.toNat r0.1) (v9.set v25.toNat ((v8.set v25.toNat r0.1).getD v25.toNat 0)) (Aa .i64 (v25+1))) none) none) none) none) none) none) none) none) none) (vN R L v8 v9 0)):=by kernel_rfl
theorem AU3 (v8 v9:List Int) (v41:Int):@Eq _ (vN R L v8 v9 v41 ([1,1,1,1,0,1,0]++[0])) (cond (decide (v41 < 10)) (pT R L v8 v9 v41 0) (vP R L v8 v9 [] 0)):=by kernel_rfl
theorem Au1 (v8 v9:List Int) (v41 v43:Int):@Eq _ (pT R L v8 v9 v41 v43 ([1,1,1,1,0,1,0,0,1,1,0,0,1,0]++[0])) (cond (decide (v43 < 2)) (tG R L v8 v9 v43 v41 v43 0) (vN R L v8 v9 (Aa .i64 (v41+1)))):=by kernel_rfl
theorem AS3 (v8 v9:List Int) (v16:List UInt8) (v95:Int):@Eq _ (vP R L v8 v9 v16 v95 ([1,1,1,1,1,1,0,1,0]++[0])) (cond (decide (v95 < 16)) (cond (zA v95) (cond (Ab v95.toNat 16) (cond (zA v95) (cond (Ab v95.toNat 16) ((wI R (Aa .i64 (Aa .u32 ((v9.getD v95.toNat 0)+(v8.getD v95.toNat 0)))) 4).bind fun r0=>cond (zX (v16.length+r0.1.length)) (vP R L v8 v9 (v16++r0.1) (Aa .i64 (v95+1))) none) none) none) none) none) (some (v16,()))):=by kernel_rfl
theorem AU2 (v8 v9:List Int) (v11 v41 v43 v46:Int):@Eq _ (tG R L v8 v9 v11 v41 v43 v46 ([1,1,1,1,0,1,0,0,1,1,0,0,1,0,0,1,1,0,0,1,1,0]++[0])) (cond (decide (v46 < 4)) (cond (zA v46) (cond (Ab v46.toNat 16) (cond (zA (Aa .i64 (4+(Ae (Aa .i64 (v46+v11)) 4)))) (cond (Ab (Aa .i64 (4+(Ae (Aa .i64 (v46+v11)) 4))).toNat 16) (cond (zA (Aa .i64 (8+(Ae (Aa .i64 (v46+(Aa .i64 (2 * v11)))) 4)))) (cond (Ab (Aa .i64 (8+(Ae (Aa .i64 (v46+(Aa .i64 (2 * v11)))) 4))).toNat 16) (cond (zA (Aa .i64 (12+(Ae (Aa .i64 (v46+(Aa .i64 (3 * v11)))) 4)))) (cond (Ab (Aa .i64 (12+(Ae (Aa .i64 (v46+(Aa .i64 (3 * v11)))) 4))).toNat 16) ((cH R (v9.getD v46.toNat 0) (v9.getD (Aa .i64 (4+(Ae (Aa .i64 (v46+v11)) 4))).toNat 0) (v9.getD (Aa .i64 (8+(Ae (Aa .i64 (v46+(Aa .i64 (2 * v11)))) 4))).toNat 0) (v9.getD (Aa .i64 (12+(Ae (Aa .i64 (v46+(Aa .i64 (3 * v11)))) 4))).toNat 0)).bind fun r0=>cond (zA v46) (cond (Ab v46.toNat 16) (cond (zA (Aa .i64 (4+(Ae (Aa .i64 (v46+v11)) 4)))) (cond (Ab (Aa .i64 (4+(Ae (Aa .i64 (v46+v11)) 4))).toNat 16) (cond (zA (Aa .i64 (8+(Ae (Aa .i64 (v46+(Aa .i64 (2 * v11)))) 4)))) (cond (Ab (Aa .i64 (8+(Ae (Aa .i64 (v46+(Aa .i64 (2 * v11)))) 4))).toNat 16) (cond (zA (Aa .i64 (12+(Ae (Aa .i64 (v46+(Aa .i64 (3 * v11)))) 4)))) (cond (Ab (Aa .i64 (12+(Ae (Aa .i64 (v46+(Aa .i64 (3 * v11)))) 4))).toNat 16) (tG R L v8 ((((v9.set v46.toNat r0.1).set (Aa .i64 (4+(Ae (Aa .i64 (v46+v11)) 4))).toNat r0.2.1).set (Aa .i64 (8+(Ae (Aa .i64 (v46+(Aa .i64 (2 * v11)))) 4))).toNat r0.2.2.1).set (Aa .i64 (12+(Ae (Aa .i64 (v46+(Aa .i64 (3 * v11)))) 4))).toNat r0.2.2.2.1) v11 v41 v43 (Aa .i64 (v46+1))) none) none) none) none) none) none) none) none) none) none) none) none) none) none) none) none) (pT R L v8 v9 v41 (Aa .i64 (v43+1)))):=by kernel_rfl
theorem A2G (x0:List UInt8) (x1:Int):@Eq _ (nA (zF EE R L) x0 x1) (cond (zA x1) (cond (Ab x1.toNat x0.length) (cond (zA (Aa .i64 (x1+1))) (cond (Ab (Aa .i64 (x1+1)).toNat x0.length) (cond (zA (Aa .i64 (x1+2))) (cond (Ab (Aa .i64 (x1+2)).toNat x0.length) (cond (zA (Aa .i64 (x1+3))) (cond (Ab (Aa .i64 (x1+3)).toNat x0.length) (some (yU .or .i64 (yU .or .i64 (yU .or .i64 (Aa .i64 (Ag (x0.getD x1.toNat 0):Int)) (Aa .i64 ((Aa .i64 (Ag (x0.getD (Aa .i64 (x1+1)).toNat 0):Int)) * (2 ^ (Af (8:Int).toNat (Ac .i64)))))) (Aa .i64 ((Aa .i64 (Ag (x0.getD (Aa .i64 (x1+2)).toNat 0):Int)) * (2 ^ (Af (16:Int).toNat (Ac .i64)))))) (Aa .i64 ((Aa .i64 (Ag (x0.getD (Aa .i64 (x1+3)).toNat 0):Int)) * (2 ^ (Af (24:Int).toNat (Ac .i64))))),())) none) none) none) none) none) none) none) none):=by kernel_rfl
theorem A1Y (x0 x1:Int):@Eq _ (tU (zF EE R L) x0 x1) (cond (decide (x1 < 0)) none (cond (decide ((Aa .i64 (32 - x1)) < 0)) none (some (yU .and .i64 (yU .or .i64 (Aa .i64 (x0 * (2 ^ (Af x1.toNat (Ac .i64))))) (Ah x0 (2 ^ (Af (Aa .i64 (32 - x1)).toNat (Ac .i64))))) 4294967295,())))):=by kernel_rfl
theorem Ag2 (x0 x1 x2 x3:Int):@Eq _ (lW (zF EE R L) x0 x1 x2 x3) ((tU R (yU .xor .i64 x3 (yU .and .i64 (Aa .i64 (x0+x1)) 4294967295)) 16).bind fun r0=>(tU R (yU .xor .i64 x1 (yU .and .i64 (Aa .i64 (x2+r0.1)) 4294967295)) 12).bind fun r1=>(tU R (yU .xor .i64 r0.1 (yU .and .i64 (Aa .i64 ((yU .and .i64 (Aa .i64 (x0+x1)) 4294967295)+r1.1)) 4294967295)) 8).bind fun r2=>(tU R (yU .xor .i64 r1.1 (yU .and .i64 (Aa .i64 ((yU .and .i64 (Aa .i64 (x2+r0.1)) 4294967295)+r2.1)) 4294967295)) 7).bind fun r3=>some ([yU .and .i64 (Aa .i64 ((yU .and .i64 (Aa .i64 (x0+x1)) 4294967295)+r1.1)) 4294967295,r3.1,yU .and .i64 (Aa .i64 ((yU .and .i64 (Aa .i64 (x2+r0.1)) 4294967295)+r2.1)) 4294967295,r2.1],())):=by kernel_rfl
theorem Aw2 (x0:List Int) (x1 x2 x3 x4:Int):@Eq _ (kG (zF EE R L) x0 x1 x2 x3 x4) (cond (zA x1) (cond (Ab x1.toNat 16) (cond (zA x2) (cond (Ab x2.toNat 16) (cond (zA x3) (cond (Ab x3.toNat 16) (cond (zA x4) (cond (Ab x4.toNat 16) ((lW R (x0.getD x1.toNat 0) (x0.getD x2.toNat 0) (x0.getD x3.toNat 0) (x0.getD x4.toNat 0)).bind fun r0=>cond (zA x1) (cond (Ab x1.toNat 16) (cond (zA x2) (cond (Ab x2.toNat 16) (cond (zA x3) (cond (Ab x3.toNat 16) (cond (zA x4) (cond (Ab x4.toNat 16) (some ((((x0.set x1.toNat (r0.1.getD (0:Int).toNat 0)).set x2.toNat (r0.1.getD (1:Int).toNat 0)).set x3.toNat (r0.1.getD (2:Int).toNat 0)).set x4.toNat (r0.1.getD (3:Int).toNat 0),())) none) none) none) none) none) none) none) none) none) none) none) none) none) none) none) none):=by kernel_rfl
theorem Aw9 (x0 x1:List UInt8) (x2:Int):@Eq _ (rT (zF EE R L) x0 x1 x2) (vJ R L x0 x1 x2 [0,0,0,0,0,0,0,0,0,0,0,0,0,0,0,0] 0):=by kernel_rfl
theorem AE9 (v0 v1:List UInt8) (v2:Int) (v7:List Int) (v8:Int):@Eq _ (vJ R L v0 v1 v2 v7 v8 ([1,1,0,1,0]++[0])) (cond (decide (v8 < 4)) ((nA R [101,120,112,97,110,100,32,51,50,45,98,121,116,101,32,107] (Aa .i64 (4 * v8))).bind fun r0=>cond (zA v8) (cond (Ab v8.toNat 16) (vJ R L v0 v1 v2 (v7.set v8.toNat r0.1) (Aa .i64 (v8+1))) none) none) (xT R L v0 v1 v2 v7 0)):=by kernel_rfl
theorem AF4 (v0 v1:List UInt8) (v2:Int) (v7:List Int) (v9:Int):@Eq _ (xT R L v0 v1 v2 v7 v9 ([1,1,1,0,1,0]++[0])) (cond (decide (v9 < 8)) ((nA R v0 (Aa .i64 (4 * v9))).bind fun r0=>cond (zA (Aa .i64 (4+v9))) (cond (Ab (Aa .i64 (4+v9)).toNat 16) (xT R L v0 v1 v2 (v7.set (Aa .i64 (4+v9)).toNat r0.1) (Aa .i64 (v9+1))) none) none) (xR R L v1 (v7.set (12:Int).toNat v2) 0)):=by kernel_rfl
theorem AE1 (v1:List UInt8) (v7:List Int) (v10:Int):@Eq _ (xR R L v1 v7 v10 ([1,1,1,1,1,0,1,0]++[0])) (cond (decide (v10 < 3)) ((nA R v1 (Aa .i64 (4 * v10))).bind fun r0=>cond (zA (Aa .i64 (13+v10))) (cond (Ab (Aa .i64 (13+v10)).toNat 16) (xR R L v1 (v7.set (Aa .i64 (13+v10)).toNat r0.1) (Aa .i64 (v10+1))) none) none) (yS R L v7 v7 0)):=by kernel_rfl
theorem AD5 (v7 v11:List Int) (v12:Int):@Eq _ (yS R L v7 v11 v12 ([1,1,1,1,1,1,1,0,1,0]++[0])) (cond (decide (v12 < 10)) (vQ R L v7 v11 v12 0) (xQ R L v7 v11 [] 0)):=by kernel_rfl
theorem AF2 (v7 v11:List Int) (v12 v13:Int):@Eq _ (vQ R L v7 v11 v12 v13 ([1,1,1,1,1,1,1,0,1,0,0,1,0,0,0,1,0]++[0])) (cond (decide (v13 < 4)) ((kG R v11 v13 (Aa .i64 (4+v13)) (Aa .i64 (8+v13)) (Aa .i64 (12+v13))).bind fun r0=>vQ R L v7 r0.1 v12 (Aa .i64 (v13+1))) (xU R L v7 v11 v12 0)):=by kernel_rfl
theorem AC6 (v7 v11 v15:List Int) (v16:Int):@Eq _ (xQ R L v7 v11 v15 v16 ([1,1,1,1,1,1,1,1,1,0,1,0]++[0])) (cond (decide (v16 < 16)) (cond (zA v16) (cond (Ab v16.toNat 16) (cond (zA v16) (cond (Ab v16.toNat 16) ((kM R v15 (yU .and .i64 (Aa .i64 ((v11.getD v16.toNat 0)+(v7.getD v16.toNat 0))) 4294967295)).bind fun r0=>xQ R L v7 v11 r0.1 (Aa .i64 (v16+1))) none) none) none) none) (some (Ak (fun (n:Int)=>Aj n.toNat) v15,()))):=by kernel_rfl
theorem AC3 (v7 v11:List Int) (v12 v14:Int):@Eq _ (xU R L v7 v11 v12 v14 ([1,1,1,1,1,1,1,0,1,0,0,1,0,0,1,1,0]++[0])) (cond (decide (v14 < 4)) ((kG R v11 v14 (Aa .i64 (4+(Ae (Aa .i64 (v14+1)) 4))) (Aa .i64 (8+(Ae (Aa .i64 (v14+2)) 4))) (Aa .i64 (12+(Ae (Aa .i64 (v14+3)) 4)))).bind fun r0=>xU R L v7 r0.1 v12 (Aa .i64 (v14+1))) (yS R L v7 v11 (Aa .i64 (v12+1)))):=by kernel_rfl
theorem BB4 (x0 x1:List UInt8):@Eq _ (A1A (zF EE R L) x0 x1) (nJ R L x1 (Ak (fun (b:UInt8)=>(Ag b:Int)) x0) ((Ak (fun (b:UInt8)=>(Ag b:Int)) x0).length:Int) 0):=by kernel_rfl
theorem Ay2 (v1:List UInt8) (v5:List Int) (v10 v11:Int):@Eq _ (nJ R L v1 v5 v10 v11 ([1,1,0,1,0]++[0])) (cond (decide (v11 < v10)) (cond (zA v11) (cond (Ab v11.toNat v5.length) (cond (zA v11) (cond (Ab v11.toNat v1.length) (cond (zA v11) (cond (Ab v11.toNat v5.length) (nJ R L v1 (v5.set v11.toNat (yU .xor .u8 (v5.getD v11.toNat 0) (Ag (v1.getD v11.toNat 0):Int))) v10 (Aa .i64 (v11+1))) none) none) none) none) none) none) (some (Ak (fun (n:Int)=>Aj n.toNat) v5,()))):=by kernel_rfl
theorem A46 (x0 x1:List UInt8) (x2:Int) (x3:List UInt8):@Eq _ (fO (zF EE R L) x0 x1 x2 x3) (tD R L x0 x1 x2 x3 [] [] 0):=by kernel_rfl
theorem AS2 (v0 v1:List UInt8) (v2:Int) (v3:List UInt8) (v9:List Int) (v10:List UInt8) (v11:Int):@Eq _ (tD R L v0 v1 v2 v3 v9 v10 v11 ([1,1,1,0,1,0]++[0])) (cond (decide (v11 < (v3.length:Int))) (cond (eqI (Ae v11 64) 0) ((rT R v0 v1 (Aa .i64 (v2+(Aa .i64 (Ai v11 64))))).bind fun r0=>cond (zA v11) (cond (Ab v11.toNat v3.length) (cond (zA (Ae v11 64)) (cond (Ab (Ae v11 64).toNat r0.1.length) (cond (zX (v9.length+([yU .xor .u8 (Ag (v3.getD v11.toNat 0):Int) (Ag (r0.1.getD (Ae v11 64).toNat 0):Int)]).length)) (tD R L v0 v1 v2 v3 (v9++[yU .xor .u8 (Ag (v3.getD v11.toNat 0):Int) (Ag (r0.1.getD (Ae v11 64).toNat 0):Int)]) r0.1 (Aa .i64 (v11+1))) none) none) none) none) none) (cond (zA v11) (cond (Ab v11.toNat v3.length) (cond (zA (Ae v11 64)) (cond (Ab (Ae v11 64).toNat v10.length) (cond (zX (v9.length+([yU .xor .u8 (Ag (v3.getD v11.toNat 0):Int) (Ag (v10.getD (Ae v11 64).toNat 0):Int)]).length)) (tD R L v0 v1 v2 v3 (v9++[yU .xor .u8 (Ag (v3.getD v11.toNat 0):Int) (Ag (v10.getD (Ae v11 64).toNat 0):Int)]) v10 (Aa .i64 (v11+1))) none) none) none) none) none)) (some (Ak (fun (n:Int)=>Aj n.toNat) v9,()))):=by kernel_rfl
theorem A6H (x0 x1 x2:Int):@Eq _ (AM0 (zF EE R L) x0 x1 x2) (cond (decide (x1≤x0)) (some (decide (x0≤x2),())) (some (false,()))):=by kernel_rfl
theorem An5 (x0:List Int):@Eq _ (jR (zF EE R L) x0) (sJ R L x0 0):=by kernel_rfl
theorem bU (v0:List Int) (v3:Int):@Eq _ (sJ R L v0 v3 ([1,0,1,0]++[0])) (cond (decide (v3 < (v0.length:Int))) (cond (zA v3) (cond (Ab v3.toNat v0.length) ((AM0 R (v0.getD v3.toNat 0) 0 7).bind fun r0=>cond (!r0.1) (some (false,())) (sJ R L v0 (Aa .i64 (v3+1)))) none) none) (some (true,()))):=by kernel_rfl
theorem A0X (x0:Int):@Eq _ (nI (zF EE R L) x0) (uT R L x0 [] 0):=by kernel_rfl
theorem AE3 (v0:Int) (v3:List Int) (v4:Int):@Eq _ (uT R L v0 v3 v4 ([1,1,0,1,0]++[0])) (cond (decide (v4 < 8)) (cond (decide ((Aa .i64 (8 * v4)) < 0)) none (cond (zX (v3.length+([Aa .u8 (Ah v0 (2 ^ (Af (Aa .i64 (8 * v4)).toNat (Ac .i64))))]).length)) (uT R L v0 (v3++[Aa .u8 (Ah v0 (2 ^ (Af (Aa .i64 (8 * v4)).toNat (Ac .i64))))]) (Aa .i64 (v4+1))) none)) (some (Ak (fun (n:Int)=>Aj n.toNat) v3,()))):=by kernel_rfl
theorem A0t (x0 x1 x2:Int):@Eq _ (fF (zF EE R L) x0 x1 x2) ((nI R x2).bind fun r0=>cond (zX ((Ak (fun (n:Int)=>Aj n.toNat) [Aa .u8 x0,Aa .u8 x1,Aa .u8 (Ah x1 (2 ^ (Af (8:Int).toNat (Ac .i64)))),0]).length+r0.1.length)) (some ((Ak (fun (n:Int)=>Aj n.toNat) [Aa .u8 x0,Aa .u8 x1,Aa .u8 (Ah x1 (2 ^ (Af (8:Int).toNat (Ac .i64)))),0])++r0.1,())) none):=by kernel_rfl
theorem A4m (x0:List UInt8):@Eq _ (eM (zF EE R L) x0) (nP R L x0):=by kernel_rfl
theorem Ax6 (v0:List UInt8):@Eq _ (nP R L v0 ([1,0,0]++[0])) (cond (!(eqI (Ae (v0.length:Int) 16) 0)) (cond (zX (v0.length+([(0:UInt8)]).length)) (nP R L (v0++[0])) none) (some (v0,()))):=by kernel_rfl
theorem A0v (x0:List UInt8):@Eq _ (fA (zF EE R L) x0) (cond (Au (16:Int).toNat x0.length) (vM R L (Ak (fun (b:UInt8)=>(Ag b:Int)) (Av 0 (Ax (16:Int).toNat x0))) 3) none):=by kernel_rfl
theorem AC5 (v3:List Int) (v4:Int):@Eq _ (vM R L v3 v4 ([1,1,0,1,0]++[0])) (cond (decide (v4 < 16)) (cond (zA v4) (cond (Ab v4.toNat v3.length) (cond (zA v4) (cond (Ab v4.toNat v3.length) (vM R L (v3.set v4.toNat (yU .and .u8 (v3.getD v4.toNat 0) 15)) (Aa .i64 (v4+4))) none) none) none) none) (vL R L v3 4)):=by kernel_rfl
theorem AD9 (v3:List Int) (v5:Int):@Eq _ (vL R L v3 v5 ([1,1,1,0,1,0]++[0])) (cond (decide (v5 < 16)) (cond (zA v5) (cond (Ab v5.toNat v3.length) (cond (zA v5) (cond (Ab v5.toNat v3.length) (vL R L (v3.set v5.toNat (yU .and .u8 (v3.getD v5.toNat 0) 252)) (Aa .i64 (v5+4))) none) none) none) none) (some (Ak (fun (n:Int)=>Aj n.toNat) v3,()))):=by kernel_rfl
theorem Av1 (x0:List UInt8):@Eq _ (nE (zF EE R L) x0) (wM R L x0 (Ad 5 0) [0,0,0,0,0] 0):=by kernel_rfl
theorem AF8 (v0:List UInt8) (v2 v3:List Int) (v4:Int):@Eq _ (wM R L v0 v2 v3 v4 ([1,1,0,1,0]++[0])) (cond (decide (v4 < 17)) (cond (zA v4) (cond (Ab v4.toNat v0.length) (cond (zA (Aa .i64 (Ai (Aa .i64 (8 * v4)) 26))) (cond (Ab (Aa .i64 (Ai (Aa .i64 (8 * v4)) 26)).toNat 5) (cond (decide ((Ae (Aa .i64 (8 * v4)) 26) < 0)) none (cond (zA (Aa .i64 (Ai (Aa .i64 (8 * v4)) 26))) (cond (Ab (Aa .i64 (Ai (Aa .i64 (8 * v4)) 26)).toNat 5) (cond (decide (18 < (Ae (Aa .i64 (8 * v4)) 26))) (cond (decide ((Aa .i64 (Ai (Aa .i64 (8 * v4)) 26)) < 4)) (cond (zA (Aa .i64 ((Aa .i64 (Ai (Aa .i64 (8 * v4)) 26))+1))) (cond (Ab (Aa .i64 ((Aa .i64 (Ai (Aa .i64 (8 * v4)) 26))+1)).toNat 5) (cond (decide ((Aa .i64 (26 - (Ae (Aa .i64 (8 * v4)) 26))) < 0)) none (cond (zA (Aa .i64 ((Aa .i64 (Ai (Aa .i64 (8 * v4)) 26))+1))) (cond (Ab (Aa .i64 ((Aa .i64 (Ai (Aa .i64 (8 * v4)) 26))+1)).toNat 5) (wM R L v0 v2 ((v3.set (Aa .i64 (Ai (Aa .i64 (8 * v4)) 26)).toNat (Aa .i64 ((v3.getD (Aa .i64 (Ai (Aa .i64 (8 * v4)) 26)).toNat 0)+(yU .and .i64 (Aa .i64 ((Aa .i64 (Ag (v0.getD v4.toNat 0):Int)) * (2 ^ (Af (Ae (Aa .i64 (8 * v4)) 26).toNat (Ac .i64))))) 67108863)))).set (Aa .i64 ((Aa .i64 (Ai (Aa .i64 (8 * v4)) 26))+1)).toNat (Aa .i64 (((v3.set (Aa .i64 (Ai (Aa .i64 (8 * v4)) 26)).toNat (Aa .i64 ((v3.getD (Aa .i64 (Ai (Aa .i64 (8 * v4)) 26)).toNat 0)+(yU .and .i64 (Aa .i64 ((Aa .i64 (Ag (v0.getD v4.toNat 0):Int)) * (2 ^ (Af (Ae (Aa .i64 (8 * v4)) 26).toNat (Ac .i64))))) 67108863)))).getD (Aa .i64 ((Aa .i64 (Ai (Aa .i64 (8 * v4)) 26))+1)).toNat 0)+(Ah (Aa .i64 (Ag (v0.getD v4.toNat 0):Int)) (2 ^ (Af (Aa .i64 (26 - (Ae (Aa .i64 (8 * v4)) 26))).toNat (Ac .i64))))))) (Aa .i64 (v4+1))) none) none)) none) none) (wM R L v0 v2 (v3.set (Aa .i64 (Ai (Aa .i64 (8 * v4)) 26)).toNat (Aa .i64 ((v3.getD (Aa .i64 (Ai (Aa .i64 (8 * v4)) 26)).toNat 0)+(yU .and .i64 (Aa .i64 ((Aa .i64 (Ag (v0.getD v4.toNat 0):Int)) * (2 ^ (Af (Ae (Aa .i64 (8 * v4)) 26).toNat (Ac .i64))))) 67108863)))) (Aa .i64 (v4+1)))) (wM R L v0 v2 (v3.set (Aa .i64 (Ai (Aa .i64 (8 * v4)) 26)).toNat (Aa .i64 ((v3.getD (Aa .i64 (Ai (Aa .i64 (8 * v4)) 26)).toNat 0)+(yU .and .i64 (Aa .i64 ((Aa .i64 (Ag (v0.getD v4.toNat 0):Int)) * (2 ^ (Af (Ae (Aa .i64 (8 * v4)) 26).toNat (Ac .i64))))) 67108863)))) (Aa .i64 (v4+1)))) none) none)) none) none) none) none) (some (v3,()))):=by kernel_rfl
theorem Az0 (x0:List Int):@Eq _ (pH (zF EE R L) x0) (rK R L x0 (Ad 5 0) 0):=by kernel_rfl
theorem Ad9 (v1 v2:List Int) (v3:Int):@Eq _ (rK R L v1 v2 v3 ([1,0,1,0]++[0])) (cond (decide (v3 < 3)) (vS R L v1 v2 v3 0) (some (v1,()))):=by kernel_rfl
theorem AE2 (v1 v2:List Int) (v3 v4:Int):@Eq _ (vS R L v1 v2 v3 v4 ([1,0,1,0,0,1,0,0,0,1,0]++[0])) (cond (decide (v4 < 4)) (cond (zA (Aa .i64 (v4+1))) (cond (Ab (Aa .i64 (v4+1)).toNat 5) (cond (zA v4) (cond (Ab v4.toNat 5) (cond (zA (Aa .i64 (v4+1))) (cond (Ab (Aa .i64 (v4+1)).toNat 5) (cond (zA v4) (cond (Ab v4.toNat 5) (cond (zA v4) (cond (Ab v4.toNat 5) (vS R L ((v1.set (Aa .i64 (v4+1)).toNat (Aa .i64 ((v1.getD (Aa .i64 (v4+1)).toNat 0)+(Ah (v1.getD v4.toNat 0) (2 ^ (Af (26:Int).toNat (Ac .i64))))))).set v4.toNat (yU .and .i64 ((v1.set (Aa .i64 (v4+1)).toNat (Aa .i64 ((v1.getD (Aa .i64 (v4+1)).toNat 0)+(Ah (v1.getD v4.toNat 0) (2 ^ (Af (26:Int).toNat (Ac .i64))))))).getD v4.toNat 0) 67108863)) v2 v3 (Aa .i64 (v4+1))) none) none) none) none) none) none) none) none) none) none) (rK R L ((v1.set (0:Int).toNat (Aa .i64 ((v1.getD (0:Int).toNat 0)+(Aa .i64 (5 * (Ah (v1.getD (4:Int).toNat 0) (2 ^ (Af (26:Int).toNat (Ac .i64))))))))).set (4:Int).toNat (yU .and .i64 ((v1.set (0:Int).toNat (Aa .i64 ((v1.getD (0:Int).toNat 0)+(Aa .i64 (5 * (Ah (v1.getD (4:Int).toNat 0) (2 ^ (Af (26:Int).toNat (Ac .i64))))))))).getD (4:Int).toNat 0) 67108863)) v2 (Aa .i64 (v3+1)))):=by kernel_rfl
theorem Az7 (x0 x1:List Int):@Eq _ (nL (zF EE R L) x0 x1) (wP R L x0 x1 (Ad 5 0) [0,0,0,0,0] 0):=by kernel_rfl
theorem AC4 (v2 v3 v4 v5:List Int) (v6:Int):@Eq _ (wP R L v2 v3 v4 v5 v6 ([1,1,0,1,0]++[0])) (cond (decide (v6 < 5)) (wN R L v2 v3 v4 v5 v6 0) ((pH R v5).bind fun r0=>some (r0.1,()))):=by kernel_rfl
theorem AE7 (v2 v3 v4 v5:List Int) (v6 v7:Int):@Eq _ (wN R L v2 v3 v4 v5 v6 v7 ([1,1,0,1,0,0,1,0,0,1,0]++[0])) (cond (decide (v7 < 5)) (cond (zA v6) (cond (Ab v6.toNat 5) (cond (zA v7) (cond (Ab v7.toNat 5) (cond (decide (4 < (Aa .i64 (v6+v7)))) (cond (zA (Ae (Aa .i64 (v6+v7)) 5)) (cond (Ab (Ae (Aa .i64 (v6+v7)) 5).toNat 5) (cond (zA (Ae (Aa .i64 (v6+v7)) 5)) (cond (Ab (Ae (Aa .i64 (v6+v7)) 5).toNat 5) (wN R L v2 v3 v4 (v5.set (Ae (Aa .i64 (v6+v7)) 5).toNat (Aa .i64 ((v5.getD (Ae (Aa .i64 (v6+v7)) 5).toNat 0)+(Aa .i64 ((Aa .i64 ((v2.getD v6.toNat 0) * (v3.getD v7.toNat 0))) * 5))))) v6 (Aa .i64 (v7+1))) none) none) none) none) (cond (zA (Ae (Aa .i64 (v6+v7)) 5)) (cond (Ab (Ae (Aa .i64 (v6+v7)) 5).toNat 5) (cond (zA (Ae (Aa .i64 (v6+v7)) 5)) (cond (Ab (Ae (Aa .i64 (v6+v7)) 5).toNat 5) (wN R L v2 v3 v4 (v5.set (Ae (Aa .i64 (v6+v7)) 5).toNat (Aa .i64 ((v5.getD (Ae (Aa .i64 (v6+v7)) 5).toNat 0)+(Aa .i64 ((v2.getD v6.toNat 0) * (v3.getD v7.toNat 0)))))) v6 (Aa .i64 (v7+1))) none) none) none) none)) none) none) none) none) (wP R L v2 v3 v4 v5 (Aa .i64 (v6+1)))):=by kernel_rfl
theorem A2Y (x0:List Int):@Eq _ (dY (zF EE R L) x0) (tJ R L x0 (Ad 5 0) (x0.set (0:Int).toNat (Aa .i64 ((x0.getD (0:Int).toNat 0)+5))) 0):=by kernel_rfl
theorem AN1 (v1 v2 v3:List Int) (v4:Int):@Eq _ (tJ R L v1 v2 v3 v4 ([1,1,1,0,1,0]++[0])) (cond (decide (v4 < 4)) (cond (zA (Aa .i64 (v4+1))) (cond (Ab (Aa .i64 (v4+1)).toNat 5) (cond (zA v4) (cond (Ab v4.toNat 5) (cond (zA (Aa .i64 (v4+1))) (cond (Ab (Aa .i64 (v4+1)).toNat 5) (cond (zA v4) (cond (Ab v4.toNat 5) (cond (zA v4) (cond (Ab v4.toNat 5) (tJ R L v1 v2 ((v3.set (Aa .i64 (v4+1)).toNat (Aa .i64 ((v3.getD (Aa .i64 (v4+1)).toNat 0)+(Ah (v3.getD v4.toNat 0) (2 ^ (Af (26:Int).toNat (Ac .i64))))))).set v4.toNat (yU .and .i64 ((v3.set (Aa .i64 (v4+1)).toNat (Aa .i64 ((v3.getD (Aa .i64 (v4+1)).toNat 0)+(Ah (v3.getD v4.toNat 0) (2 ^ (Af (26:Int).toNat (Ac .i64))))))).getD v4.toNat 0) 67108863)) (Aa .i64 (v4+1))) none) none) none) none) none) none) none) none) none) none) (cond (eqI (Ah (v3.getD (4:Int).toNat 0) (2 ^ (Af (26:Int).toNat (Ac .i64)))) 0) (some (v1,())) (some (v3.set (4:Int).toNat (yU .and .i64 (v3.getD (4:Int).toNat 0) 67108863),())))):=by kernel_rfl
theorem A3e (x0 x1:List UInt8):@Eq _ (iF (zF EE R L) x0 x1) ((fA R x0).bind fun r0=>cond (zX (r0.1.length+([(0:UInt8)]).length)) ((nE R (r0.1++[0])).bind fun r1=>tF R L x0 x1 r1.1 [0,0,0,0,0] 0) none):=by kernel_rfl
theorem AS6 (v0 v1:List UInt8) (v5 v6:List Int) (v7:Int):@Eq _ (tF R L v0 v1 v5 v6 v7 ([1,1,1,0,1,0]++[0])) (cond (decide (v7 < (v1.length:Int))) (cond (zA (As8 (v1.length:Int) (Aa .i64 (v7+16)))) (cond (zA v7) (cond (Au (As8 (v1.length:Int) (Aa .i64 (v7+16))).toNat v1.length) (cond (Au v7.toNat (As8 (v1.length:Int) (Aa .i64 (v7+16))).toNat) (cond (zX ((Av v7.toNat (Ax (As8 (v1.length:Int) (Aa .i64 (v7+16))).toNat v1)).length+([(1:UInt8)]).length)) (qC R L v0 v1 v5 v6 v7 ((Av v7.toNat (Ax (As8 (v1.length:Int) (Aa .i64 (v7+16))).toNat v1))++[1])) none) none) none) none) none) ((pH R v6).bind fun r0=>(dY R r0.1).bind fun r1=>vH R L v0 r1.1 [] 0 0)):=by kernel_rfl
theorem AT0 (v0 v1:List UInt8) (v5 v6:List Int) (v7:Int) (v8:List UInt8):@Eq _ (qC R L v0 v1 v5 v6 v7 v8 ([1,1,1,0,1,0,0,1,0,0,1,0,0]++[0])) (cond (decide ((v8.length:Int) < 17)) (cond (zX (v8.length+([(0:UInt8)]).length)) (qC R L v0 v1 v5 v6 v7 (v8++[0])) none) ((nE R v8).bind fun r0=>uM R L v0 v1 v5 v6 v7 r0.1 0)):=by kernel_rfl
theorem AS4 (v0:List UInt8) (v6 v11:List Int) (v12 v13:Int):@Eq _ (vH R L v0 v6 v11 v12 v13 ([1,1,1,1,1,1,1,0,1,0]++[0])) (cond (decide (v13 < 16)) (cond (zA (Aa .i64 (Ai (Aa .i64 (8 * v13)) 26))) (cond (Ab (Aa .i64 (Ai (Aa .i64 (8 * v13)) 26)).toNat 5) (cond (decide ((Ae (Aa .i64 (8 * v13)) 26) < 0)) none (cond (decide (18 < (Ae (Aa .i64 (8 * v13)) 26))) (cond (zA (Aa .i64 ((Aa .i64 (Ai (Aa .i64 (8 * v13)) 26))+1))) (cond (Ab (Aa .i64 ((Aa .i64 (Ai (Aa .i64 (8 * v13)) 26))+1)).toNat 5) (cond (decide ((Aa .i64 (26 - (Ae (Aa .i64 (8 * v13)) 26))) < 0)) none (cond (zA (Aa .i64 (16+v13))) (cond (Ab (Aa .i64 (16+v13)).toNat v0.length) (cond (zX (v11.length+([Aa .u8 (Aa .i64 (v12+(Aa .i64 ((yU .and .i64 (Aa .i64 ((Ah (v6.getD (Aa .i64 (Ai (Aa .i64 (8 * v13)) 26)).toNat 0) (2 ^ (Af (Ae (Aa .i64 (8 * v13)) 26).toNat (Ac .i64))))+(Aa .i64 ((v6.getD (Aa .i64 ((Aa .i64 (Ai (Aa .i64 (8 * v13)) 26))+1)).toNat 0) * (2 ^ (Af (Aa .i64 (26 - (Ae (Aa .i64 (8 * v13)) 26))).toNat (Ac .i64))))))) 255)+(Aa .i64 (Ag (v0.getD (Aa .i64 (16+v13)).toNat 0):Int))))))]).length)) (vH R L v0 v6 (v11++[Aa .u8 (Aa .i64 (v12+(Aa .i64 ((yU .and .i64 (Aa .i64 ((Ah (v6.getD (Aa .i64 (Ai (Aa .i64 (8 * v13)) 26)).toNat 0) (2 ^ (Af (Ae (Aa .i64 (8 * v13)) 26).toNat (Ac .i64))))+(Aa .i64 ((v6.getD (Aa .i64 ((Aa .i64 (Ai (Aa .i64 (8 * v13)) 26))+1)).toNat 0) * (2 ^ (Af (Aa .i64 (26 - (Ae (Aa .i64 (8 * v13)) 26))).toNat (Ac .i64))))))) 255)+(Aa .i64 (Ag (v0.getD (Aa .i64 (16+v13)).toNat 0):Int))))))]) (Ah (Aa .i64 (v12+(Aa .i64 ((yU .and .i64 (Aa .i64 ((Ah (v6.getD (Aa .i64 (Ai (Aa .i64 (8 * v13)) 26)).toNat 0) (2 ^ (Af (Ae (Aa .i64 (8 * v13)) 26).toNat (Ac .i64))))+(Aa .i64 ((v6.getD (Aa .i64 ((Aa .i64 (Ai (Aa .i64 (8 * v13)) 26))+1)).toNat 0) * (2 ^ (Af (Aa .i64 (26 - (Ae (Aa .i64 (8 * v13)) 26))).toNat (Ac .i64))))))) 255)+(Aa .i64 (Ag (v0.getD (Aa .i64 (16+v13)).toNat 0):Int)))))) (2 ^ (Af (8:Int).toNat (Ac .i64)))) (Aa .i64 (v13+1))) none) none) none)) none) none) (cond (zA (Aa .i64 (16+v13))) (cond (Ab (Aa .i64 (16+v13)).toNat v0.length) (cond (zX (v11.length+([Aa .u8 (Aa .i64 (v12+(Aa .i64 ((yU .and .i64 (Ah (v6.getD (Aa .i64 (Ai (Aa .i64 (8 * v13)) 26)).toNat 0) (2 ^ (Af (Ae (Aa .i64 (8 * v13)) 26).toNat (Ac .i64)))) 255)+(Aa .i64 (Ag (v0.getD (Aa .i64 (16+v13)).toNat 0):Int))))))]).length)) (vH R L v0 v6 (v11++[Aa .u8 (Aa .i64 (v12+(Aa .i64 ((yU .and .i64 (Ah (v6.getD (Aa .i64 (Ai (Aa .i64 (8 * v13)) 26)).toNat 0) (2 ^ (Af (Ae (Aa .i64 (8 * v13)) 26).toNat (Ac .i64)))) 255)+(Aa .i64 (Ag (v0.getD (Aa .i64 (16+v13)).toNat 0):Int))))))]) (Ah (Aa .i64 (v12+(Aa .i64 ((yU .and .i64 (Ah (v6.getD (Aa .i64 (Ai (Aa .i64 (8 * v13)) 26)).toNat 0) (2 ^ (Af (Ae (Aa .i64 (8 * v13)) 26).toNat (Ac .i64)))) 255)+(Aa .i64 (Ag (v0.getD (Aa .i64 (16+v13)).toNat 0):Int)))))) (2 ^ (Af (8:Int).toNat (Ac .i64)))) (Aa .i64 (v13+1))) none) none) none))) none) none) (some (Ak (fun (n:Int)=>Aj n.toNat) v11,()))):=by kernel_rfl
theorem AU4 (v0 v1:List UInt8) (v5 v6:List Int) (v7:Int) (v9:List Int) (v10:Int):@Eq _ (uM R L v0 v1 v5 v6 v7 v9 v10 ([1,1,1,0,1,0,0,1,0,0,1,1,1,0,1,0]++[0])) (cond (decide (v10 < 5)) (cond (zA v10) (cond (Ab v10.toNat 5) (cond (zA v10) (cond (Ab v10.toNat 5) (cond (zA v10) (cond (Ab v10.toNat 5) (uM R L v0 v1 v5 (v6.set v10.toNat (Aa .i64 ((v6.getD v10.toNat 0)+(v9.getD v10.toNat 0)))) v7 v9 (Aa .i64 (v10+1))) none) none) none) none) none) none) ((nL R v6 v5).bind fun r0=>tF R L v0 v1 v5 r0.1 (Aa .i64 (v7+16)))):=by kernel_rfl
theorem A4R (x0 x1 x2 x3:List UInt8):@Eq _ (AB7 (zF EE R L) x0 x1 x2 x3) ((rT R x0 x1 0).bind fun r0=>cond (Au (32:Int).toNat r0.1.length) ((eM R x2).bind fun r1=>(eM R x3).bind fun r2=>cond (zX (r1.1.length+r2.1.length)) ((nI R (x2.length:Int)).bind fun r3=>cond (zX ((r1.1++r2.1).length+r3.1.length)) ((nI R (x3.length:Int)).bind fun r4=>cond (zX (((r1.1++r2.1)++r3.1).length+r4.1.length)) ((iF R (Av 0 (Ax (32:Int).toNat r0.1)) (((r1.1++r2.1)++r3.1)++r4.1)).bind fun r5=>some (r5.1,())) none) none) none) none):=by kernel_rfl
theorem A13 (x0 x1 x2 x3:List UInt8):@Eq _ (hZ (zF EE R L) x0 x1 x2 x3) ((fO R x0 x1 1 x3).bind fun r0=>(AB7 R x0 x1 x2 r0.1).bind fun r1=>cond (zX (r0.1.length+r1.1.length)) (some (r0.1++r1.1,())) none):=by kernel_rfl
theorem A10 (x0:List UInt8) (x1 x2 x3:Int) (x4:List UInt8):@Eq _ (oT (zF EE R L) x0 x1 x2 x3 x4) ((fF R x1 x2 x3).bind fun r0=>(hZ R x0 r0.1 [98,108,111,99,107] x4).bind fun r1=>some (r1.1,())):=by kernel_rfl
theorem A0n (x0:d64) (x1:Int) (x2:List UInt8):@Eq _ (nH (zF EE R L) x0 x1 x2) (cond (zX (([]:List d63).length+x0.2.1.length)) (cond (zX ((([]:List d63)++x0.2.1).length+([(x1,(x2,()))]).length)) (some ((x0.1,(([]++x0.2.1)++[(x1,(x2,()))],x0.2.2)),())) none) none):=by kernel_rfl
theorem A1P (x0:d64):@Eq _ (eU (zF EE R L) x0) (cond (zX (([]:List (List UInt8)).length+x0.1.length)) (qM R L x0 ([],([],())) ([]++x0.1,([],())) 0) none):=by kernel_rfl
theorem AI3 (v1 v2 v3:d64) (v4:Int):@Eq _ (qM R L v1 v2 v3 v4 ([1,1,0,1,0]++[0])) (cond (decide (v4 < (v1.2.1.length:Int))) (cond (zA v4) (cond (Ab v4.toNat v1.2.1.length) (cond (zA v4) (cond (Ab v4.toNat v1.2.1.length) (cond (zA (v1.2.1.getD v4.toNat (0,([],()))).1) (cond (Ab (v1.2.1.getD v4.toNat (0,([],()))).1.toNat v3.1.length) (qM R L v1 v2 (v3.1.set (v1.2.1.getD v4.toNat (0,([],()))).1.toNat (v1.2.1.getD v4.toNat (0,([],()))).2.1,v3.2) (Aa .i64 (v4+1))) none) none) none) none) none) none) (some (v3,()))):=by kernel_rfl
theorem A39 (x0:d64):@Eq _ (lL (zF EE R L) x0) (cond (zX (([]:List (List UInt8)).length+x0.1.length)) (cond (zX (([]:List d63).length+x0.2.1.length)) (some (([]++x0.1,([]++x0.2.1,())),())) none) none):=by kernel_rfl
theorem A4r (x0:d65):@Eq _ (fY (zF EE R L) x0) ((lL R x0.2.2.1).bind fun r0=>some ((x0.1,(x0.2.1,(r0.1,x0.2.2.2))),())):=by kernel_rfl
theorem AC0 (x0:List UInt8) (x1:FnVal):@Eq _ (oC (zF EE R L) x0 x1) ((kW EE R x1 [⟨.str,(x0:List UInt8)⟩]).bind fun (r0:Bool)=>some (!r0,())):=by kernel_rfl
theorem oU (x0:List (List UInt8)) (x1:FnVal):@Eq _ (xI (zF EE R L) x0 x1) (xZ R L x0 x1 0 (x0.length:Int) 0):=by kernel_rfl
theorem oB (v0:List (List UInt8)) (v1:FnVal) (v4 v7 v8:Int):@Eq _ (xZ R L v0 v1 v4 v7 v8 ([1,0,1,0]++[0])) (cond (decide (v8 < v7)) (cond (zA v8) (cond (Ab v8.toNat v0.length) ((kW EE R v1 [⟨.str,(v0.getD v8.toNat []:List UInt8)⟩]).bind fun (r0:Bool)=>cond r0 (some (v8,())) (zE R L v0 v1 v4 v8 v7 (Aa .i64 (v8+1)))) none) none) (some (-1,()))):=by kernel_rfl
theorem wB (v0:List (List UInt8)) (v1:FnVal) (v4 v5 v7 v8:Int):@Eq _ (zE R L v0 v1 v4 v5 v7 v8 ([1,0,1,0]++[0])) (cond (decide (v8 < v7)) (cond (zA v8) (cond (Ab v8.toNat v0.length) ((kW EE R v1 [⟨.str,(v0.getD v8.toNat []:List UInt8)⟩]).bind fun (r0:Bool)=>cond r0 (some (v8,())) (zE R L v0 v1 v4 v8 v7 (Aa .i64 (v8+1)))) none) none) (some (-1,()))):=by kernel_rfl
theorem pO (x0:List (List UInt8)) (x1:FnVal):@Eq _ (yW (zF EE R L) x0 x1) ((xI R x0 x1).bind fun r0=>some (decide (0≤r0.1),())):=by kernel_rfl
theorem AK6 (x0:List (List UInt8)) (x1:FnVal):@Eq _ (sY (zF EE R L) x0 x1) ((yW R x0 (FnVal.mk (254:Nat) (FCaps.fn x1 FCaps.nil))).bind fun r0=>some (!r0.1,())):=by kernel_rfl
theorem A1s (x0 x1 x2:Int):@Eq _ (cD (zF EE R L) x0 x1 x2) ((wI R x0 1).bind fun r0=>(wI R x1 2).bind fun r1=>cond (zX (r0.1.length+r1.1.length)) ((wI R 0 1).bind fun r2=>cond (zX ((r0.1++r1.1).length+r2.1.length)) ((wI R x2 8).bind fun r3=>cond (zX (((r0.1++r1.1)++r2.1).length+r3.1.length)) (some (((r0.1++r1.1)++r2.1)++r3.1,())) none) none) none):=by kernel_rfl
theorem A4p (x0:List UInt8):@Eq _ (fV (zF EE R L) x0) ((qE R [0] (Ae (Aa .i64 (16 - (Ae (x0.length:Int) 16))) 16)).bind fun r0=>cond (zX (x0.length+r0.1.length)) (some (x0++r0.1,())) none):=by kernel_rfl
theorem A1a (x0:List UInt8):@Eq _ (dG (zF EE R L) x0) (cond (Au (16:Int).toNat x0.length) (uN R L (Ak (fun (b:UInt8)=>(Ag b:Int)) (Av 0 (Ax (16:Int).toNat x0))) 3) none):=by kernel_rfl
theorem AM9 (v3:List Int) (v4:Int):@Eq _ (uN R L v3 v4 ([1,1,0,1,0]++[0])) (cond (decide (v4 < 16)) (cond (zA v4) (cond (Ab v4.toNat v3.length) (cond (zA v4) (cond (Ab v4.toNat v3.length) (uN R L (v3.set v4.toNat (yU .and .u8 (v3.getD v4.toNat 0) 15)) (Aa .i64 (v4+4))) none) none) none) none) (uJ R L v3 4)):=by kernel_rfl
theorem AK5 (v3:List Int) (v5:Int):@Eq _ (uJ R L v3 v5 ([1,1,1,0,1,0]++[0])) (cond (decide (v5 < 16)) (cond (zA v5) (cond (Ab v5.toNat v3.length) (cond (zA v5) (cond (Ab v5.toNat v3.length) (uJ R L (v3.set v5.toNat (yU .and .u8 (v3.getD v5.toNat 0) 252)) (Aa .i64 (v5+4))) none) none) none) none) (some (Ak (fun (n:Int)=>Aj n.toNat) v3,()))):=by kernel_rfl
theorem A1u (x0:List UInt8):@Eq _ (lD (zF EE R L) x0) (xV R L (Ad 5 0) (Ad 5 0) (Ak (fun (b:UInt8)=>(Ag b:Int)) x0) ((Ak (fun (b:UInt8)=>(Ag b:Int)) x0).length:Int) 0):=by kernel_rfl
theorem AK4 (v2 v3 v9:List Int) (v10 v11:Int):@Eq _ (xV R L v2 v3 v9 v10 v11 ([1,1,0,1,0]++[0])) (cond (decide (v11 < v10)) (cond (zA v11) (cond (Ab v11.toNat v9.length) (wL R L v2 v3 v11 (v9.getD v11.toNat 0) v9 v10 v11 0) none) none) (some (v3,()))):=by kernel_rfl
theorem AI6 (v2 v3:List Int) (v4 v5:Int) (v9:List Int) (v10 v11 v16:Int):@Eq _ (wL R L v2 v3 v4 v5 v9 v10 v11 v16 ([1,1,0,1,0,0,1,1,0,0,1,1,0]++[0])) (cond (decide (v16 < 8)) (cond (decide (v16 < 0)) none (cond (eqI (yU .and .u8 (Ah v5 (2 ^ (Af v16.toNat (Ac .u8)))) 1) 1) (cond (zA (Aa .i64 (Ai (Aa .i64 ((Aa .i64 (8 * v4))+v16)) 26))) (cond (Ab (Aa .i64 (Ai (Aa .i64 ((Aa .i64 (8 * v4))+v16)) 26)).toNat 5) (cond (decide ((Ae (Aa .i64 ((Aa .i64 (8 * v4))+v16)) 26) < 0)) none (cond (zA (Aa .i64 (Ai (Aa .i64 ((Aa .i64 (8 * v4))+v16)) 26))) (cond (Ab (Aa .i64 (Ai (Aa .i64 ((Aa .i64 (8 * v4))+v16)) 26)).toNat 5) (wL R L v2 (v3.set (Aa .i64 (Ai (Aa .i64 ((Aa .i64 (8 * v4))+v16)) 26)).toNat (yU .or .u64 (v3.getD (Aa .i64 (Ai (Aa .i64 ((Aa .i64 (8 * v4))+v16)) 26)).toNat 0) (Aa .u64 (1 * (2 ^ (Af (Ae (Aa .i64 ((Aa .i64 (8 * v4))+v16)) 26).toNat (Ac .u64))))))) v4 v5 v9 v10 v11 (Aa .i64 (v16+1))) none) none)) none) none) (wL R L v2 v3 v4 v5 v9 v10 v11 (Aa .i64 (v16+1))))) (xV R L v2 v3 v9 v10 (Aa .i64 (v11+1)))):=by kernel_rfl
theorem AP8 (x0:List Int):@Eq _ (xM (zF EE R L) x0) (vT R L x0 (Ad 5 0) 0):=by kernel_rfl
theorem AG6 (v1 v2:List Int) (v5:Int):@Eq _ (vT R L v1 v2 v5 ([1,0,1,0]++[0])) (cond (decide (v5 < 3)) (yY R L v1 v2 0 v5 0) (some (v1,()))):=by kernel_rfl
theorem gD (v1 v2:List Int) (v3 v5 v7:Int):@Eq _ (yY R L v1 v2 v3 v5 v7 ([1,0,1,0,0,1,1,0,0,1,0,1,0]++[0])) (cond (decide (v7 < 5)) (cond (zA v7) (cond (Ab v7.toNat 5) (cond (zA v7) (cond (Ab v7.toNat 5) (cond (zA v7) (cond (Ab v7.toNat 5) (cond (zA v7) (cond (Ab v7.toNat 5) (cond (zA v7) (cond (Ab v7.toNat 5) (yY R L ((v1.set v7.toNat (Aa .u64 ((v1.getD v7.toNat 0)+v3))).set v7.toNat (yU .and .u64 ((v1.set v7.toNat (Aa .u64 ((v1.getD v7.toNat 0)+v3))).getD v7.toNat 0) 67108863)) v2 (Ah ((v1.set v7.toNat (Aa .u64 ((v1.getD v7.toNat 0)+v3))).getD v7.toNat 0) (2 ^ (Af (26:Int).toNat (Ac .u64)))) v5 (Aa .i64 (v7+1))) none) none) none) none) none) none) none) none) none) none) (vT R L (v1.set (0:Int).toNat (Aa .u64 ((v1.getD (0:Int).toNat 0)+(Aa .u64 (5 * v3))))) v2 (Aa .i64 (v5+1)))):=by kernel_rfl
theorem Ag4 (x0 x1:List Int):@Eq _ (lO (zF EE R L) x0 x1) (vB R L x0 x1 (Ad 5 0) 0):=by kernel_rfl
theorem cR (v2 v3 v4:List Int) (v6:Int):@Eq _ (vB R L v2 v3 v4 v6 ([1,0,1,0]++[0])) (cond (decide (v6 < 5)) (cond (zA v6) (cond (Ab v6.toNat 5) (cond (zA v6) (cond (Ab v6.toNat 5) (cond (zA v6) (cond (Ab v6.toNat 5) (vB R L (v2.set v6.toNat (Aa .u64 ((v2.getD v6.toNat 0)+(v3.getD v6.toNat 0)))) v3 v4 (Aa .i64 (v6+1))) none) none) none) none) none) none) ((xM R v2).bind fun r0=>some (r0.1,()))):=by kernel_rfl
theorem Aa8 (x0 x1:List Int):@Eq _ (mG (zF EE R L) x0 x1) (xE R L x1 (Ad 5 0) (Ad 5 0) x0 0):=by kernel_rfl
theorem eK (v3 v4 v5 v10:List Int) (v11:Int):@Eq _ (xE R L v3 v4 v5 v10 v11 ([1,1,0,1,0]++[0])) (cond (decide (v11 < 5)) (cond (zA v11) (cond (Ab v11.toNat 5) (xG R L v3 v4 v5 v11 (v10.getD v11.toNat 0) v10 v11 v3 0) none) none) ((xM R v5).bind fun r0=>some (r0.1,()))):=by kernel_rfl
theorem fX (v3 v4 v5:List Int) (v6 v7:Int) (v10:List Int) (v11:Int) (v15:List Int) (v16:Int):@Eq _ (xG R L v3 v4 v5 v6 v7 v10 v11 v15 v16 ([1,1,0,1,0,0,1,1,0,0,1,1,0]++[0])) (cond (decide (v16 < 5)) (cond (zA v16) (cond (Ab v16.toNat 5) (cond (decide ((Aa .i64 (v6+v16)) < 5)) (cond (zA (Aa .i64 (v6+v16))) (cond (Ab (Aa .i64 (v6+v16)).toNat 5) (cond (zA (Aa .i64 (v6+v16))) (cond (Ab (Aa .i64 (v6+v16)).toNat 5) (xG R L v3 v4 (v5.set (Aa .i64 (v6+v16)).toNat (Aa .u64 ((v5.getD (Aa .i64 (v6+v16)).toNat 0)+(Aa .u64 (v7 * (v15.getD v16.toNat 0)))))) v6 v7 v10 v11 v15 (Aa .i64 (v16+1))) none) none) none) none) (cond (zA (Aa .i64 ((Aa .i64 (v6+v16)) - 5))) (cond (Ab (Aa .i64 ((Aa .i64 (v6+v16)) - 5)).toNat 5) (cond (zA (Aa .i64 ((Aa .i64 (v6+v16)) - 5))) (cond (Ab (Aa .i64 ((Aa .i64 (v6+v16)) - 5)).toNat 5) (xG R L v3 v4 (v5.set (Aa .i64 ((Aa .i64 (v6+v16)) - 5)).toNat (Aa .u64 ((v5.getD (Aa .i64 ((Aa .i64 (v6+v16)) - 5)).toNat 0)+(Aa .u64 ((Aa .u64 (5 * v7)) * (v15.getD v16.toNat 0)))))) v6 v7 v10 v11 v15 (Aa .i64 (v16+1))) none) none) none) none)) none) none) (xE R L v3 v4 v5 v10 (Aa .i64 (v11+1)))):=by kernel_rfl
theorem AP9 (x0:List Int):@Eq _ (pS (zF EE R L) x0) ((xM R x0).bind fun r0=>yZ R L r0.1 (Ad 5 0) [67108859,67108863,67108863,67108863,67108863] 4):=by kernel_rfl
theorem gF (v1 v2 v3:List Int) (v4:Int):@Eq _ (yZ R L v1 v2 v3 v4 ([1,1,1,0,1,0]++[0])) (cond (decide (0≤v4)) (cond (zA v4) (cond (Ab v4.toNat 5) (cond (zA v4) (cond (Ab v4.toNat 5) (cond (!(eqI (v1.getD v4.toNat 0) (v3.getD v4.toNat 0))) (cond (zA v4) (cond (Ab v4.toNat 5) (cond (zA v4) (cond (Ab v4.toNat 5) (cond (decide ((v1.getD v4.toNat 0) < (v3.getD v4.toNat 0))) (some (v1,())) (zR R L v1 v2 v3 0)) none) none) none) none) (yZ R L v1 v2 v3 (Aa .i64 (v4 - 1)))) none) none) none) none) (zR R L v1 v2 v3 0)):=by kernel_rfl
theorem hO (v1 v2 v3:List Int) (v28:Int):@Eq _ (zR R L v1 v2 v3 v28 ([1,1,1,1,0,1,0]++[0])) (cond (decide (v28 < 5)) (cond (zA v28) (cond (Ab v28.toNat 5) (cond (zA v28) (cond (Ab v28.toNat 5) (cond (zA v28) (cond (Ab v28.toNat 5) (zR R L (v1.set v28.toNat (Aa .u64 ((v1.getD v28.toNat 0) - (v3.getD v28.toNat 0)))) v2 v3 (Aa .i64 (v28+1))) none) none) none) none) none) none) (some (v1,()))):=by kernel_rfl
theorem Ab6 (x0:List Int) (x1:List UInt8):@Eq _ (nY (zF EE R L) x0 x1) (yT R L x1 x0 (Ad (16:Int).toNat 0) 0 ((Ad (16:Int).toNat (0:Int)).length:Int) 0):=by kernel_rfl
theorem eB (v1:List UInt8) (v2 v5:List Int) (v6 v13 v14:Int):@Eq _ (yT R L v1 v2 v5 v6 v13 v14 ([1,1,1,0,1,0]++[0])) (cond (decide (v14 < v13)) (xH R L v1 v2 v5 v6 v14 0 v13 v14 0) (some (Ak (fun (n:Int)=>Aj n.toNat) v5,()))):=by kernel_rfl
theorem eI (v1:List UInt8) (v2 v5:List Int) (v6 v7 v8 v13 v14 v17:Int):@Eq _ (xH R L v1 v2 v5 v6 v7 v8 v13 v14 v17 ([1,1,1,0,1,0,0,1,1,0,0,1,1,0,1,0]++[0])) (cond (decide (v17 < 8)) (cond (zA (Aa .i64 (Ai (Aa .i64 ((Aa .i64 (8 * v7))+v17)) 26))) (cond (Ab (Aa .i64 (Ai (Aa .i64 ((Aa .i64 (8 * v7))+v17)) 26)).toNat 5) (cond (decide ((Ae (Aa .i64 ((Aa .i64 (8 * v7))+v17)) 26) < 0)) none (cond (decide (v17 < 0)) none (xH R L v1 v2 v5 v6 v7 (yU .or .i64 v8 (Aa .i64 ((Aa .i64 (yU .and .u64 (Ah (v2.getD (Aa .i64 (Ai (Aa .i64 ((Aa .i64 (8 * v7))+v17)) 26)).toNat 0) (2 ^ (Af (Ae (Aa .i64 ((Aa .i64 (8 * v7))+v17)) 26).toNat (Ac .u64)))) 1)) * (2 ^ (Af v17.toNat (Ac .i64)))))) v13 v14 (Aa .i64 (v17+1))))) none) none) (cond (zA v7) (cond (Ab v7.toNat v1.length) (cond (zA v7) (cond (Ab v7.toNat v5.length) (yT R L v1 v2 (v5.set v7.toNat (Aa .u8 (Aa .i64 (v6+(Aa .i64 (v8+(Aa .i64 (Ag (v1.getD v7.toNat 0):Int)))))))) (Ah (Aa .i64 (v6+(Aa .i64 (v8+(Aa .i64 (Ag (v1.getD v7.toNat 0):Int)))))) (2 ^ (Af (8:Int).toNat (Ac .i64)))) v13 (Aa .i64 (v14+1))) none) none) none) none)):=by kernel_rfl
theorem A99 (x0 x1:List UInt8):@Eq _ (Ac2 (zF EE R L) x0 x1) ((dG R x0).bind fun r0=>(lD R r0.1).bind fun r1=>lF R L x0 x1 (Ad 5 0) r1.1 0):=by kernel_rfl
theorem At7 (v0 v1:List UInt8) (v5 v6:List Int) (v7:Int):@Eq _ (lF R L v0 v1 v5 v6 v7 ([1,1,1,0,1,0]++[0])) (cond (decide (v7 < (v1.length:Int))) (cond (zA (As8 (Aa .i64 (v7+16)) (v1.length:Int))) (cond (zA v7) (cond (Au (As8 (Aa .i64 (v7+16)) (v1.length:Int)).toNat v1.length) (cond (Au v7.toNat (As8 (Aa .i64 (v7+16)) (v1.length:Int)).toNat) (cond (zX ((Av v7.toNat (Ax (As8 (Aa .i64 (v7+16)) (v1.length:Int)).toNat v1)).length+([(1:UInt8)]).length)) ((lD R ((Av v7.toNat (Ax (As8 (Aa .i64 (v7+16)) (v1.length:Int)).toNat v1))++[1])).bind fun r0=>(lO R v5 r0.1).bind fun r1=>(mG R r1.1 v6).bind fun r2=>lF R L v0 v1 r2.1 v6 (Aa .i64 (v7+16))) none) none) none) none) none) ((pS R v5).bind fun r0=>cond (Au v0.length v0.length) (cond (Au (16:Int).toNat v0.length) ((nY R r0.1 (Av (16:Int).toNat (Ax v0.length v0))).bind fun r1=>some (r1.1,())) none) none)):=by kernel_rfl
theorem A3w (x0 x1 x2 x3:List UInt8):@Eq _ (AA6 (zF EE R L) x0 x1 x2 x3) ((eA R x0 x1 0).bind fun r0=>cond (Au (32:Int).toNat r0.1.length) ((fV R x2).bind fun r1=>(fV R x3).bind fun r2=>cond (zX (r1.1.length+r2.1.length)) ((wI R (x2.length:Int) 8).bind fun r3=>cond (zX ((r1.1++r2.1).length+r3.1.length)) ((wI R (x3.length:Int) 8).bind fun r4=>cond (zX (((r1.1++r2.1)++r3.1).length+r4.1.length)) ((Ac2 R (Av 0 (Ax (32:Int).toNat r0.1)) (((r1.1++r2.1)++r3.1)++r4.1)).bind fun r5=>some (r5.1,())) none) none) none) none):=by kernel_rfl
theorem A8c (x0 x1 x2 x3:List UInt8):@Eq _ (AJ2 (zF EE R L) x0 x1 x2 x3) ((AP2 R x0 x1 1 x3).bind fun r0=>(AA6 R x0 x1 x2 r0.1).bind fun r1=>cond (zX (r0.1.length+r1.1.length)) (some (r0.1++r1.1,())) none):=by kernel_rfl
theorem A3n (x0:List UInt8) (x1 x2 x3:Int) (x4:List UInt8):@Eq _ (mX (zF EE R L) x0 x1 x2 x3 x4) ((cD R x1 x2 x3).bind fun r0=>(AJ2 R x0 r0.1 [98,108,111,99,107] x4).bind fun r1=>some (r1.1,())):=by kernel_rfl
theorem lM (x0:List (List UInt8)):@Eq _ (xY (zF EE R L) x0) (cond (Nat.beq x0.length 0) (At1 (some ([],())) (cond (zX (([]:List (List UInt8)).length+x0.length)) (some ([]++x0,())) none)) (cond (zX (([]:List (List UInt8)).length+x0.length)) (some ([]++x0,())) none)):=by kernel_rfl
theorem iQ (x0:List d63):@Eq _ (vO (zF EE R L) x0) (cond (Nat.beq x0.length 0) (At1 (some ([],())) (cond (zX (([]:List d63).length+x0.length)) (some ([]++x0,())) none)) (cond (zX (([]:List d63).length+x0.length)) (some ([]++x0,())) none)):=by kernel_rfl
theorem Af0 (x0:d64):@Eq _ (lZ (zF EE R L) x0) ((xY R x0.1).bind fun r0=>(vO R x0.2.1).bind fun r1=>some ((r0.1,(r1.1,())),())):=by kernel_rfl
theorem Ae9 (x0 x1:d62):@Eq _ (lR (zF EE R L) x0 x1) (cond (!(eqI x0.1 x1.1)) (some (false,())) (cond (!(eqI x0.2.1 x1.2.1)) (some (false,())) (cond (!(eqI x0.2.2.1 x1.2.2.1)) (some (false,())) (cond (!(eqI x0.2.2.2.1 x1.2.2.2.1)) (some (false,())) (cond (!(eqS x0.2.2.2.2.1 x1.2.2.2.2.1)) (some (false,())) (cond (!(eqS x0.2.2.2.2.2.1 x1.2.2.2.2.2.1)) (some (false,())) (cond (!(eqS x0.2.2.2.2.2.2.1 x1.2.2.2.2.2.2.1)) (some (false,())) (some (true,()))))))))):=by kernel_rfl
theorem Ap2 (x0 x1:List (List UInt8)):@Eq _ (jM (zF EE R L) x0 x1) (cond (!(eqI (x0.length:Int) (x1.length:Int))) (some (false,())) (vV R L x0 x1 false 0)):=by kernel_rfl
theorem aG (v0 v1:List (List UInt8)) (v4:Bool) (v5:Int):@Eq _ (vV R L v0 v1 v4 v5 ([1,1,0,1,0]++[0])) (cond (decide (v5 < (v0.length:Int))) (cond (zA v5) (cond (Ab v5.toNat v0.length) (cond (zA v5) (cond (Ab v5.toNat v1.length) (cond (!(eqS (v0.getD v5.toNat []) (v1.getD v5.toNat []))) (some (false,())) (vV R L v0 v1 v4 (Aa .i64 (v5+1)))) none) none) none) none) (some (true,()))):=by kernel_rfl
theorem A8e (x0 x1:d63):@Eq _ (AV7 (zF EE R L) x0 x1) (cond (!(eqI x0.1 x1.1)) (some (false,())) (cond (!(eqS x0.2.1 x1.2.1)) (some (false,())) (some (true,())))):=by kernel_rfl
theorem A5r (x0 x1:List d63):@Eq _ (AM6 (zF EE R L) x0 x1) (cond (!(eqI (x0.length:Int) (x1.length:Int))) (some (false,())) (rU R L x0 x1 false 0)):=by kernel_rfl
theorem Aa0 (v0 v1:List d63) (v4:Bool) (v5:Int):@Eq _ (rU R L v0 v1 v4 v5 ([1,1,0,1,0]++[0])) (cond (decide (v5 < (v0.length:Int))) (cond (zA v5) (cond (Ab v5.toNat v0.length) (cond (zA v5) (cond (Ab v5.toNat v1.length) ((AV7 R (v0.getD v5.toNat (0,([],()))) (v1.getD v5.toNat (0,([],())))).bind fun r0=>cond (!r0.1) (some (false,())) (rU R L v0 v1 v4 (Aa .i64 (v5+1)))) none) none) none) none) (some (true,()))):=by kernel_rfl
theorem Au8 (x0 x1:d64):@Eq _ (kL (zF EE R L) x0 x1) ((jM R x0.1 x1.1).bind fun r0=>cond (!r0.1) (some (false,())) ((AM6 R x0.2.1 x1.2.1).bind fun r1=>cond (!r1.1) (some (false,())) (some (true,())))):=by kernel_rfl
theorem A2X (x0 x1:d65):@Eq _ (eX (zF EE R L) x0 x1) (cond (!(eqS x0.1 x1.1)) (some (false,())) ((lR R x0.2.1 x1.2.1).bind fun r0=>cond (!r0.1) (some (false,())) ((kL R x0.2.2.1 x1.2.2.1).bind fun r1=>cond (!r1.1) (some (false,())) (cond (!(eqB x0.2.2.2.1 x1.2.2.2.1)) (some (false,())) (cond (!(eqB x0.2.2.2.2.1 x1.2.2.2.2.1)) (some (false,())) (some (true,()))))))):=by kernel_rfl
theorem A8b (x0 x1:d67):@Eq _ (AW5 (zF EE R L) x0 x1) (cond (!(eqI x0.1 x1.1)) (some (false,())) (cond (!(eqI x0.2.1 x1.2.1)) (some (false,())) (cond (!(eqI x0.2.2.1 x1.2.2.1)) (some (false,())) (some (true,()))))):=by kernel_rfl
theorem A7K (x0 x1:List d67):@Eq _ (AL9 (zF EE R L) x0 x1) (cond (!(eqI (x0.length:Int) (x1.length:Int))) (some (false,())) (rS R L x0 x1 false 0)):=by kernel_rfl
theorem Ab2 (v0 v1:List d67) (v4:Bool) (v5:Int):@Eq _ (rS R L v0 v1 v4 v5 ([1,1,0,1,0]++[0])) (cond (decide (v5 < (v0.length:Int))) (cond (zA v5) (cond (Ab v5.toNat v0.length) (cond (zA v5) (cond (Ab v5.toNat v1.length) ((AW5 R (v0.getD v5.toNat (0,(0,(0,())))) (v1.getD v5.toNat (0,(0,(0,()))))).bind fun r0=>cond (!r0.1) (some (false,())) (rS R L v0 v1 v4 (Aa .i64 (v5+1)))) none) none) none) none) (some (true,()))):=by kernel_rfl
theorem A62 (x0 x1:d68):@Eq _ (AK3 (zF EE R L) x0 x1) ((AL9 R x0.1 x1.1).bind fun r0=>cond (!r0.1) (some (false,())) (some (true,()))):=by kernel_rfl
theorem A4L (x0 x1:List d68):@Eq _ (aX (zF EE R L) x0 x1) (cond (!(eqI (x0.length:Int) (x1.length:Int))) (some (false,())) (sX R L x0 x1 false 0)):=by kernel_rfl
theorem AS0 (v0 v1:List d68) (v4:Bool) (v5:Int):@Eq _ (sX R L v0 v1 v4 v5 ([1,1,0,1,0]++[0])) (cond (decide (v5 < (v0.length:Int))) (cond (zA v5) (cond (Ab v5.toNat v0.length) (cond (zA v5) (cond (Ab v5.toNat v1.length) ((AK3 R (v0.getD v5.toNat ([],())) (v1.getD v5.toNat ([],()))).bind fun r0=>cond (!r0.1) (some (false,())) (sX R L v0 v1 v4 (Aa .i64 (v5+1)))) none) none) none) none) (some (true,()))):=by kernel_rfl
theorem A4u (x0 x1:List Int):@Eq _ (AB9 (zF EE R L) x0 x1) (cond (!(eqI (x0.length:Int) (x1.length:Int))) (some (false,())) (sT R L x0 x1 false 0)):=by kernel_rfl
theorem AR7 (v0 v1:List Int) (v4:Bool) (v5:Int):@Eq _ (sT R L v0 v1 v4 v5 ([1,1,0,1,0]++[0])) (cond (decide (v5 < (v0.length:Int))) (cond (zA v5) (cond (Ab v5.toNat v0.length) (cond (zA v5) (cond (Ab v5.toNat v1.length) (cond (!(eqI (v0.getD v5.toNat 0) (v1.getD v5.toNat 0))) (some (false,())) (sT R L v0 v1 v4 (Aa .i64 (v5+1)))) none) none) none) none) (some (true,()))):=by kernel_rfl
theorem Av6 (x0:Int):@Eq _ (sP (zF EE R L) x0) (cond (decide (x0≤0)) (some ([109,48],())) (rQ R L x0 [] [])):=by kernel_rfl
theorem AC8 (v0:Int) (v2 v3:List UInt8):@Eq _ (rQ R L v0 v2 v3 ([1,1,1,0,0]++[0])) (cond (decide (0 < v0)) (cond (zX ((Ak (fun (n:Int)=>Aj n.toNat) [Aa .u8 (Aa .i64 (48+(Ae v0 10)))]).length+v3.length)) (rQ R L (Aa .i64 (Ai v0 10)) v2 ((Ak (fun (n:Int)=>Aj n.toNat) [Aa .u8 (Aa .i64 (48+(Ae v0 10)))])++v3)) none) (cond (zX (([(109:UInt8)]).length+v3.length)) (some ([109]++v3,())) none)):=by kernel_rfl
theorem AY6 (x0:List (List UInt8)) (x1:Int):@Eq _ (mB (zF EE R L) x0 x1) (wH R L x0 x1 0 0):=by kernel_rfl
theorem eL (v0:List (List UInt8)) (v1 v4 v5:Int):@Eq _ (wH R L v0 v1 v4 v5 ([1,0,1,0]++[0])) (cond (decide (v5 < (v0.length:Int))) ((sP R v1).bind fun r0=>cond (zA v5) (cond (Ab v5.toNat v0.length) (wH R L (v0.set v5.toNat r0.1) (Aa .i64 (v1+1)) v4 (Aa .i64 (v5+1))) none) none) (some (v1,(v0,())))):=by kernel_rfl
theorem A09 (x0:List d63) (x1:Int):@Eq _ (dP (zF EE R L) x0 x1) (tH R L x0 x1 0 0):=by kernel_rfl
theorem AL7 (v0:List d63) (v1 v4 v5:Int):@Eq _ (tH R L v0 v1 v4 v5 ([1,0,1,0]++[0])) (cond (decide (v5 < (v0.length:Int))) (cond (zA v5) (cond (Ab v5.toNat v0.length) ((sP R (Aa .i64 (v1+1))).bind fun r0=>cond (zA v5) (cond (Ab v5.toNat (v0.set v5.toNat (v1,(v0.getD v5.toNat (0,([],()))).2)).length) (tH R L ((v0.set v5.toNat (v1,(v0.getD v5.toNat (0,([],()))).2)).set v5.toNat (((v0.set v5.toNat (v1,(v0.getD v5.toNat (0,([],()))).2)).getD v5.toNat (0,([],()))).1,(r0.1,((v0.set v5.toNat (v1,(v0.getD v5.toNat (0,([],()))).2)).getD v5.toNat (0,([],()))).2.2))) (Aa .i64 ((Aa .i64 (v1+1))+1)) v4 (Aa .i64 (v5+1))) none) none) none) none) (some (v1,(v0,())))):=by kernel_rfl
theorem Ae7 (x0:d64) (x1:Int):@Eq _ (oL (zF EE R L) x0 x1) ((mB R x0.1 x1).bind fun r0=>(dP R x0.2.1 r0.1).bind fun r1=>some (r1.1,((r0.2.1,(r1.2.1,x0.2.2)),()))):=by kernel_rfl
theorem Aq5 (x0:d65) (x1:Int):@Eq _ (jS (zF EE R L) x0 x1) ((oL R x0.2.2.1 x1).bind fun r0=>some (r0.1,((x0.1,(x0.2.1,(r0.2.1,x0.2.2.2))),()))):=by kernel_rfl
theorem A2L (x0:List d67) (x1:Int):@Eq _ (cF (zF EE R L) x0 x1) (tK R L x0 x1 0 0):=by kernel_rfl
theorem AJ0 (v0:List d67) (v1 v4 v5:Int):@Eq _ (tK R L v0 v1 v4 v5 ([1,0,1,0]++[0])) (cond (decide (v5 < (v0.length:Int))) (cond (zA v5) (cond (Ab v5.toNat v0.length) (cond (zA v5) (cond (Ab v5.toNat (v0.set v5.toNat (v1,(v0.getD v5.toNat (0,(0,(0,())))).2)).length) (cond (zA v5) (cond (Ab v5.toNat ((v0.set v5.toNat (v1,(v0.getD v5.toNat (0,(0,(0,())))).2)).set v5.toNat (((v0.set v5.toNat (v1,(v0.getD v5.toNat (0,(0,(0,())))).2)).getD v5.toNat (0,(0,(0,())))).1,(Aa .i64 (v1+1),((v0.set v5.toNat (v1,(v0.getD v5.toNat (0,(0,(0,())))).2)).getD v5.toNat (0,(0,(0,())))).2.2))).length) (tK R L (((v0.set v5.toNat (v1,(v0.getD v5.toNat (0,(0,(0,())))).2)).set v5.toNat (((v0.set v5.toNat (v1,(v0.getD v5.toNat (0,(0,(0,())))).2)).getD v5.toNat (0,(0,(0,())))).1,(Aa .i64 (v1+1),((v0.set v5.toNat (v1,(v0.getD v5.toNat (0,(0,(0,())))).2)).getD v5.toNat (0,(0,(0,())))).2.2))).set v5.toNat ((((v0.set v5.toNat (v1,(v0.getD v5.toNat (0,(0,(0,())))).2)).set v5.toNat (((v0.set v5.toNat (v1,(v0.getD v5.toNat (0,(0,(0,())))).2)).getD v5.toNat (0,(0,(0,())))).1,(Aa .i64 (v1+1),((v0.set v5.toNat (v1,(v0.getD v5.toNat (0,(0,(0,())))).2)).getD v5.toNat (0,(0,(0,())))).2.2))).getD v5.toNat (0,(0,(0,())))).1,((((v0.set v5.toNat (v1,(v0.getD v5.toNat (0,(0,(0,())))).2)).set v5.toNat (((v0.set v5.toNat (v1,(v0.getD v5.toNat (0,(0,(0,())))).2)).getD v5.toNat (0,(0,(0,())))).1,(Aa .i64 (v1+1),((v0.set v5.toNat (v1,(v0.getD v5.toNat (0,(0,(0,())))).2)).getD v5.toNat (0,(0,(0,())))).2.2))).getD v5.toNat (0,(0,(0,())))).2.1,(Aa .i64 ((Aa .i64 (v1+1))+1),(((v0.set v5.toNat (v1,(v0.getD v5.toNat (0,(0,(0,())))).2)).set v5.toNat (((v0.set v5.toNat (v1,(v0.getD v5.toNat (0,(0,(0,())))).2)).getD v5.toNat (0,(0,(0,())))).1,(Aa .i64 (v1+1),((v0.set v5.toNat (v1,(v0.getD v5.toNat (0,(0,(0,())))).2)).getD v5.toNat (0,(0,(0,())))).2.2))).getD v5.toNat (0,(0,(0,())))).2.2.2)))) (Aa .i64 ((Aa .i64 ((Aa .i64 (v1+1))+1))+1)) v4 (Aa .i64 (v5+1))) none) none) none) none) none) none) (some (v1,(v0,())))):=by kernel_rfl
theorem Aw5 (x0:List d68) (x1:Int):@Eq _ (gY (zF EE R L) x0 x1) (uR R L x0 x1 0 0):=by kernel_rfl
theorem AD3 (v0:List d68) (v1 v4 v5:Int):@Eq _ (uR R L v0 v1 v4 v5 ([1,0,1,0]++[0])) (cond (decide (v5 < (v0.length:Int))) (cond (zA v5) (cond (Ab v5.toNat v0.length) ((cF R (v0.getD v5.toNat ([],())).1 v1).bind fun r0=>uR R L (v0.set v5.toNat (r0.2.1,(v0.getD v5.toNat ([],())).2)) r0.1 v4 (Aa .i64 (v5+1))) none) none) (some (v1,(v0,())))):=by kernel_rfl
theorem Ay0 (x0:List Int) (x1:Int):@Eq _ (gQ (zF EE R L) x0 x1) (uU R L x0 x1 0 0):=by kernel_rfl
theorem AD7 (v0:List Int) (v1 v4 v5:Int):@Eq _ (uU R L v0 v1 v4 v5 ([1,0,1,0]++[0])) (cond (decide (v5 < (v0.length:Int))) (cond (zA v5) (cond (Ab v5.toNat v0.length) (uU R L (v0.set v5.toNat v1) (Aa .i64 (v1+1)) v4 (Aa .i64 (v5+1))) none) none) (some (v1,(v0,())))):=by kernel_rfl
theorem Ac4 (x0:List (List UInt8)) (x1:Int):@Eq _ (nO (zF EE R L) x0 x1) (wE R L x0 x1 0 0):=by kernel_rfl
theorem eF (v0:List (List UInt8)) (v1 v4 v5:Int):@Eq _ (wE R L v0 v1 v4 v5 ([1,0,1,0]++[0])) (cond (decide (v5 < (v0.length:Int))) (cond (zA v5) (cond (Ab v5.toNat v0.length) ((sP R v1).bind fun r0=>cond (!(eqS (v0.getD v5.toNat []) r0.1)) (some (-1,())) (wE R L v0 (Aa .i64 (v1+1)) v4 (Aa .i64 (v5+1)))) none) none) (some (v1,()))):=by kernel_rfl
theorem A1B (x0:List d63) (x1:Int):@Eq _ (eT (zF EE R L) x0 x1) (tL R L x0 x1 0 0):=by kernel_rfl
theorem AK1 (v0:List d63) (v1 v4 v5:Int):@Eq _ (tL R L v0 v1 v4 v5 ([1,0,1,0]++[0])) (cond (decide (v5 < (v0.length:Int))) (cond (zA v5) (cond (Ab v5.toNat v0.length) (cond (!(eqI (v0.getD v5.toNat (0,([],()))).1 v1)) (some (-1,())) (cond (zA v5) (cond (Ab v5.toNat v0.length) ((sP R (Aa .i64 (v1+1))).bind fun r0=>cond (!(eqS (v0.getD v5.toNat (0,([],()))).2.1 r0.1)) (some (-1,())) (tL R L v0 (Aa .i64 ((Aa .i64 (v1+1))+1)) v4 (Aa .i64 (v5+1)))) none) none)) none) none) (some (v1,()))):=by kernel_rfl
theorem Ae5 (x0:d64) (x1:Int):@Eq _ (oN (zF EE R L) x0 x1) ((nO R x0.1 x1).bind fun r0=>cond (decide (r0.1 < 0)) (some (-1,())) ((eT R x0.2.1 r0.1).bind fun r1=>cond (decide (r1.1 < 0)) (some (-1,())) (some (r1.1,())))):=by kernel_rfl
theorem Aq7 (x0:d65) (x1:Int):@Eq _ (jP (zF EE R L) x0 x1) ((oN R x0.2.2.1 x1).bind fun r0=>cond (decide (r0.1 < 0)) (some (-1,())) (some (r0.1,()))):=by kernel_rfl
theorem A33 (x0:List Int):@Eq _ (aT (zF EE R L) x0) (cond (zX (([]:List Int).length+x0.length)) (some (([]++x0,([],(Ad (15:Int).toNat [],()))),())) none):=by kernel_rfl
theorem A2F (x0:List Int):@Eq _ (dD (zF EE R L) x0) (cond (decide (4096 < (x0.length:Int))) (some (([],([],([],()))),(2,()))) (cond (!(eqI (x0.length:Int) 12)) (some (([],([],([],()))),(8,()))) ((jR R x0).bind fun r0=>cond (!r0.1) (some (([],([],([],()))),(4,()))) ((aT R x0).bind fun r1=>some (r1.1,(0,())))))):=by kernel_rfl
theorem A4T (x0:List Int):@Eq _ (AB5 (zF EE R L) x0) (cond (decide (4096 < (x0.length:Int))) (some (([],(([],([],([],()))),())),(2,()))) ((dD R x0).bind fun r0=>cond (!(eqI r0.2.1 0)) (some (([],(([],([],([],()))),())),(r0.2.1,()))) (some ((Ad (11:Int).toNat 0,(r0.1,())),(0,()))))):=by kernel_rfl
theorem A1O (x0:List UInt8) (x1 x2:Int) (x3:d78) (x4:List d69):@Eq _ (gC (zF EE R L) x0 x1 x2 x3 x4) ((gM R x3 x4).bind fun r0=>(oT R x0 1 (Aa .i64 (16 * x1)) x2 r0.1).bind fun r1=>qK R L x0 x1 x2 x3 [r1.1] 0):=by kernel_rfl
theorem AN2 (v0:List UInt8) (v1 v2:Int) (v8:d78) (v11:List (List UInt8)) (v12:Int):@Eq _ (qK R L v0 v1 v2 v8 v11 v12 ([1,1,0,1,0]++[0])) (cond (decide (v12 < 15)) (cond (zA v12) (cond (Ab v12.toNat v8.2.1.2.2.1.length) ((mH R (v8.2.1.2.2.1.getD v12.toNat [])).bind fun r0=>(oT R v0 2 (Aa .i64 ((Aa .i64 ((Aa .i64 (16 * v1))+1))+v12)) v2 r0.1).bind fun r1=>cond (zX (v11.length+([r1.1]).length)) (qK R L v0 v1 v2 v8 (v11++[r1.1]) (Aa .i64 (v12+1))) none) none) none) (some (v11,()))):=by kernel_rfl
theorem A2P (x0:Int) (x1:List UInt8):@Eq _ (eR (zF EE R L) x0 x1) (cond (zX ((Ak (fun (n:Int)=>Aj n.toNat) [(0:Int),Aa .u8 x0]).length+x1.length)) ((gB R ((Ak (fun (n:Int)=>Aj n.toNat) [(0:Int),Aa .u8 x0])++x1)).bind fun r0=>some (r0.1,())) none):=by kernel_rfl
theorem An1 (x0:List (List UInt8)):@Eq _ (jD (zF EE R L) x0) (sL R L x0 [] 0):=by kernel_rfl
theorem aE (v0 v3:List (List UInt8)) (v4:Int):@Eq _ (sL R L v0 v3 v4 ([1,1,0,1,0]++[0])) (cond (decide (v4 < (v0.length:Int))) (cond (zA v4) (cond (Ab v4.toNat v0.length) ((eR R v4 (v0.getD v4.toNat [])).bind fun r0=>cond (zX (v3.length+([r0.1]).length)) (sL R L v0 (v3++[r0.1]) (Aa .i64 (v4+1))) none) none) none) (some (v3,()))):=by kernel_rfl
theorem A1o (x0 x1:List UInt8):@Eq _ (dE (zF EE R L) x0 x1) (cond (zX (([(1:UInt8)]).length+x0.length)) (cond (zX (([(1:UInt8)]++x0).length+x1.length)) ((gB R (([1]++x0)++x1)).bind fun r0=>some (r0.1,())) none) none):=by kernel_rfl
theorem Aw3 (x0:List (List UInt8)):@Eq _ (gJ (zF EE R L) x0) (rP R L x0 [] 0):=by kernel_rfl
theorem AD0 (v0 v3:List (List UInt8)) (v4:Int):@Eq _ (rP R L v0 v3 v4 ([1,1,0,1,0]++[0])) (cond (decide ((Aa .i64 (v4+1)) < (v0.length:Int))) (cond (zA v4) (cond (Ab v4.toNat v0.length) (cond (zA (Aa .i64 (v4+1))) (cond (Ab (Aa .i64 (v4+1)).toNat v0.length) ((dE R (v0.getD v4.toNat []) (v0.getD (Aa .i64 (v4+1)).toNat [])).bind fun r0=>cond (zX (v3.length+([r0.1]).length)) (rP R L v0 (v3++[r0.1]) (Aa .i64 (v4+2))) none) none) none) none) none) (some (v3,()))):=by kernel_rfl
theorem A1f (x0:List (List UInt8)):@Eq _ (eW (zF EE R L) x0) ((jD R x0).bind fun r0=>rA R L r0.1):=by kernel_rfl
theorem AM8 (v3:List (List UInt8)):@Eq _ (rA R L v3 ([1,1,0,0]++[0])) (cond (decide (1 < (v3.length:Int))) ((gJ R v3).bind fun r0=>rA R L r0.1) (cond (Ab (0:Int).toNat v3.length) (some (v3.getD (0:Int).toNat [],())) none)):=by kernel_rfl
theorem Ar0:@Eq _ (eS (zF EE R L)) (some ((Ad (40:Int).toNat [],([],())),())):=by kernel_rfl
theorem A44 (x0:d64) (x1:Int) (x2:List (List UInt8)):@Eq _ (fW (zF EE R L) x0 x1 x2) (dA R L x1 x2 x0 ([],([],())) 0):=by kernel_rfl
theorem A0F (v1:Int) (v2:List (List UInt8)) (v3 v6:d64) (v7:Int):@Eq _ (dA R L v1 v2 v3 v6 v7 ([1,0,1,0]++[0])) (cond (decide (v7 < (v2.length:Int))) (cond (zA v7) (cond (Ab v7.toNat v2.length) ((nH R v3 (Aa .i64 ((Aa .i64 (16 * v1))+v7)) (v2.getD v7.toNat [])).bind fun r0=>jN R L v1 v2 r0.1 v6 (Aa .i64 (v7+1))) none) none) (some (v3,()))):=by kernel_rfl
theorem As9 (v1:Int) (v2:List (List UInt8)) (v3 v6:d64) (v7:Int):@Eq _ (jN R L v1 v2 v3 v6 v7 ([1,0,1,0]++[0])) (cond (decide (v7 < (v2.length:Int))) (cond (zA v7) (cond (Ab v7.toNat v2.length) ((nH R v3 (Aa .i64 ((Aa .i64 (16 * v1))+v7)) (v2.getD v7.toNat [])).bind fun r0=>jN R L v1 v2 r0.1 v6 (Aa .i64 (v7+1))) none) none) (some (v3,()))):=by kernel_rfl
theorem A1n (x0:List UInt8) (x1:List Int):@Eq _ (cG (zF EE R L) x0 x1) ((AB5 R x1).bind fun r0=>(gC R x0 0 0 r0.1 []).bind fun r1=>(gB R [98,101,103,105,110]).bind fun r2=>(eW R r1.1).bind fun r3=>(eS R).bind fun r4=>(fW R r4.1 0 r1.1).bind fun r5=>(eU R r5.1).bind fun r6=>some ((x0,((0,(0,(0,(0,(r2.1,(r2.1,(r3.1,()))))))),(r6.1,(true,(false,()))))),())):=by kernel_rfl
theorem Ae4 (x0:List UInt8):@Eq _ (fI (zF EE R L) x0) (some (decide ((x0.length:Int)≤65536),())):=by kernel_rfl
theorem Av2 (x0:List (List UInt8)):@Eq _ (gU (zF EE R L) x0) ((sY R x0 (FnVal.mk (186:Nat) FCaps.nil)).bind fun r0=>some (r0.1,())):=by kernel_rfl
theorem Au3 (x0:List Int):@Eq _ (gI (zF EE R L) x0) (cond (decide (4096 < (x0.length:Int))) (some (2,())) (cond (!(eqI (x0.length:Int) 12)) (some (8,())) ((rJ R x0 (FnVal.mk (205:Nat) FCaps.nil)).bind fun r0=>cond (!r0.1) (some (4,())) (some (0,()))))):=by kernel_rfl
theorem A1V (x0:List Int):@Eq _ (dB (zF EE R L) x0) ((gI R x0).bind fun r0=>cond (!(eqI r0.1 0)) (some (([],([],([],()))),(r0.1,()))) ((wO R x0).bind fun r1=>some ((r1.1,([],(Ad (15:Int).toNat [],()))),(0,())))):=by kernel_rfl
theorem A30 (x0:List Int):@Eq _ (AA8 (zF EE R L) x0) ((dB R x0).bind fun r0=>cond (!(eqI r0.2.1 0)) (some (([],(([],([],([],()))),())),(r0.2.1,()))) (some ((Ad (11:Int).toNat 0,(r0.1,())),(0,())))):=by kernel_rfl
theorem Ap8:@Eq _ (dN (zF EE R L)) (some ((Ad (40:Int).toNat [],([],())),())):=by kernel_rfl
theorem AY2 (x0:List UInt8) (x1:Int) (x2:d78) (x3:List d69) (x4:Int):@Eq _ (qZ (zF EE R L) x0 x1 x2 x3 x4) ((jI R x2 x3).bind fun r0=>(mX R x0 1 (Aa .i64 (16 * x1)) x4 r0.1).bind fun r1=>uX R L x0 x4 (Aa .i64 (16 * x1)) [r1.1] x2.2.1.2.2.1 (x2.2.1.2.2.1.length:Int) 0):=by kernel_rfl
theorem eH (v0:List UInt8) (v4 v11:Int) (v12:List (List UInt8)) (v27:List (List d67)) (v28 v29:Int):@Eq _ (uX R L v0 v4 v11 v12 v27 v28 v29 ([1,1,1,0,1,0]++[0])) (cond (decide (v29 < v28)) (cond (zA v29) (cond (Ab v29.toNat v27.length) ((oF R (v27.getD v29.toNat [])).bind fun r0=>(mX R v0 2 (Aa .i64 ((Aa .i64 (v11+1))+v29)) v4 r0.1).bind fun r1=>cond (zX (v12.length+([r1.1]).length)) (uX R L v0 v4 v11 (v12++[r1.1]) v27 v28 (Aa .i64 (v29+1))) none) none) none) (some (v12,()))):=by kernel_rfl
theorem A0S:@Eq _ (kH (zF EE R L)) ((lA R [98,101,103,105,110]).bind fun r0=>some (r0.1,())):=by kernel_rfl
theorem Ag5 (x0:Int) (x1:List UInt8):@Eq _ (lS (zF EE R L) x0 x1) (cond (zX ((Ak (fun (n:Int)=>Aj n.toNat) [(0:Int),Aa .u8 x0]).length+x1.length)) ((lA R ((Ak (fun (n:Int)=>Aj n.toNat) [(0:Int),Aa .u8 x0])++x1)).bind fun r0=>some (r0.1,())) none):=by kernel_rfl
theorem A8H (x0 x1:List UInt8):@Eq _ (AV4 (zF EE R L) x0 x1) (cond (zX (([(1:UInt8)]).length+x0.length)) (cond (zX (([(1:UInt8)]++x0).length+x1.length)) ((lA R (([1]++x0)++x1)).bind fun r0=>some (r0.1,())) none) none):=by kernel_rfl
theorem A7n (x0:List (List UInt8)):@Eq _ (AW9 (zF EE R L) x0) (nB R L [] x0 (x0.length:Int) 0):=by kernel_rfl
theorem Ai7 (v3 v9:List (List UInt8)) (v10 v11:Int):@Eq _ (nB R L v3 v9 v10 v11 ([1,1,0,1,0]++[0])) (cond (decide (v11 < v10)) (cond (zA v11) (cond (Ab v11.toNat v9.length) ((lS R v11 (v9.getD v11.toNat [])).bind fun r0=>cond (zX (v3.length+([r0.1]).length)) (nB R L (v3++[r0.1]) v9 v10 (Aa .i64 (v11+1))) none) none) none) (rC R L v3 [v3])):=by kernel_rfl
theorem Ag6 (v3:List (List UInt8)) (v6:List (List (List UInt8))):@Eq _ (rC R L v3 v6 ([1,1,1,1,0,0]++[0])) (cond (decide (1 < (v3.length:Int))) (lE R L v3 v6 [] 0) (some (v6,()))):=by kernel_rfl
theorem Aj0 (v3:List (List UInt8)) (v6:List (List (List UInt8))) (v7:List (List UInt8)) (v8:Int):@Eq _ (lE R L v3 v6 v7 v8 ([1,1,1,1,0,0,0,1,0,1,0,1,0]++[0])) (cond (decide (v8 < (v3.length:Int))) (cond (zA v8) (cond (Ab v8.toNat v3.length) (cond (zA (Aa .i64 (v8+1))) (cond (Ab (Aa .i64 (v8+1)).toNat v3.length) ((AV4 R (v3.getD v8.toNat []) (v3.getD (Aa .i64 (v8+1)).toNat [])).bind fun r0=>cond (zX (v7.length+([r0.1]).length)) (lE R L v3 v6 (v7++[r0.1]) (Aa .i64 (v8+2))) none) none) none) none) none) (cond (zX (v6.length+([v7]).length)) (rC R L v7 (v6++[v7])) none)):=by kernel_rfl
theorem A8D (x0:List (List UInt8)):@Eq _ (AW4 (zF EE R L) x0) ((AW9 R x0).bind fun r0=>cond (Ab (4:Int).toNat r0.1.length) (cond (Ab (0:Int).toNat (r0.1.getD (4:Int).toNat []).length) (some ((r0.1.getD (4:Int).toNat []).getD (0:Int).toNat [],())) none) none):=by kernel_rfl
theorem A8E (x0:List UInt8) (x1:List Int):@Eq _ (AW2 (zF EE R L) x0 x1) ((gU R [x0]).bind fun r0=>cond (!r0.1) (some (([],((0,(0,(0,(0,([],([],([],()))))))),(([],([],())),(false,(false,()))))),(2,()))) (cond (decide (4096 < (x1.length:Int))) (some (([],((0,(0,(0,(0,([],([],([],()))))))),(([],([],())),(false,(false,()))))),(2,()))) (cond (!(eqI (x0.length:Int) 32)) (some (([],((0,(0,(0,(0,([],([],([],()))))))),(([],([],())),(false,(false,()))))),(8,()))) ((AA8 R x1).bind fun r1=>cond (!(eqI r1.2.1 0)) (some (([],((0,(0,(0,(0,([],([],([],()))))))),(([],([],())),(false,(false,()))))),(r1.2.1,()))) ((dN R).bind fun r2=>(qZ R x0 0 r1.1 [] 0).bind fun r3=>cond (Au r3.1.length r2.1.1.length) ((kH R).bind fun r4=>(kH R).bind fun r5=>(AW4 R r3.1).bind fun r6=>some ((x0,((0,(0,(0,(0,(r4.1,(r5.1,(r6.1,()))))))),((r3.1++(Av r3.1.length r2.1.1),r2.1.2),(true,(false,()))))),(0,()))) none))))):=by kernel_rfl
theorem A12 (x0 x1:d66):@Eq _ (cK (zF EE R L) x0 x1) (cond (!(eqI x0.1 x1.1)) (some (false,())) (cond (!(eqI x0.2.1 x1.2.1)) (some (false,())) (some (true,())))):=by kernel_rfl
theorem Av8 (x0 x1:List d66):@Eq _ (gN (zF EE R L) x0 x1) (cond (!(eqI (x0.length:Int) (x1.length:Int))) (some (false,())) (uP R L x0 x1 false 0)):=by kernel_rfl
theorem AF9 (v0 v1:List d66) (v4:Bool) (v5:Int):@Eq _ (uP R L v0 v1 v4 v5 ([1,1,0,1,0]++[0])) (cond (decide (v5 < (v0.length:Int))) (cond (zA v5) (cond (Ab v5.toNat v0.length) (cond (zA v5) (cond (Ab v5.toNat v1.length) ((cK R (v0.getD v5.toNat (0,(0,()))) (v1.getD v5.toNat (0,(0,())))).bind fun r0=>cond (!r0.1) (some (false,())) (uP R L v0 v1 v4 (Aa .i64 (v5+1)))) none) none) none) none) (some (true,()))):=by kernel_rfl
theorem A1g (x0 x1:List (List d68)):@Eq _ (dS (zF EE R L) x0 x1) (cond (!(eqI (x0.length:Int) (x1.length:Int))) (some (false,())) (tN R L x0 x1 false 0)):=by kernel_rfl
theorem AJ8 (v0 v1:List (List d68)) (v4:Bool) (v5:Int):@Eq _ (tN R L v0 v1 v4 v5 ([1,1,0,1,0]++[0])) (cond (decide (v5 < (v0.length:Int))) (cond (zA v5) (cond (Ab v5.toNat v0.length) (cond (zA v5) (cond (Ab v5.toNat v1.length) ((aX R (v0.getD v5.toNat []) (v1.getD v5.toNat [])).bind fun r0=>cond (!r0.1) (some (false,())) (tN R L v0 v1 v4 (Aa .i64 (v5+1)))) none) none) none) none) (some (true,()))):=by kernel_rfl
theorem Au2 (x0 x1:d69):@Eq _ (gW (zF EE R L) x0 x1) (cond (!(eqI x0.1 x1.1)) (some (false,())) ((AB9 R x0.2.1 x1.2.1).bind fun r0=>cond (!r0.1) (some (false,())) (some (true,())))):=by kernel_rfl
theorem As0 (x0 x1:List d69):@Eq _ (jQ (zF EE R L) x0 x1) (cond (!(eqI (x0.length:Int) (x1.length:Int))) (some (false,())) (vX R L x0 x1 false 0)):=by kernel_rfl
theorem bW (v0 v1:List d69) (v4:Bool) (v5:Int):@Eq _ (vX R L v0 v1 v4 v5 ([1,1,0,1,0]++[0])) (cond (decide (v5 < (v0.length:Int))) (cond (zA v5) (cond (Ab v5.toNat v0.length) (cond (zA v5) (cond (Ab v5.toNat v1.length) ((gW R (v0.getD v5.toNat (0,([],()))) (v1.getD v5.toNat (0,([],())))).bind fun r0=>cond (!r0.1) (some (false,())) (vX R L v0 v1 v4 (Aa .i64 (v5+1)))) none) none) none) none) (some (true,()))):=by kernel_rfl
theorem A01 (x0 x1:d70):@Eq _ (iL (zF EE R L) x0 x1) ((eX R x0.1 x1.1).bind fun r0=>cond (!r0.1) (some (false,())) ((kL R x0.2.1 x1.2.1).bind fun r1=>cond (!r1.1) (some (false,())) ((gN R x0.2.2.1 x1.2.2.1).bind fun r2=>cond (!r2.1) (some (false,())) ((dS R x0.2.2.2.1 x1.2.2.2.1).bind fun r3=>cond (!r3.1) (some (false,())) ((jQ R x0.2.2.2.2.1 x1.2.2.2.2.1).bind fun r4=>cond (!r4.1) (some (false,())) (cond (!(eqB x0.2.2.2.2.2.1 x1.2.2.2.2.2.1)) (some (false,())) (some (true,())))))))):=by kernel_rfl
theorem Af5 (x0:List d66) (x1:Int):@Eq _ (lQ (zF EE R L) x0 x1) (wZ R L x0 x1 0 0):=by kernel_rfl
theorem cO (v0:List d66) (v1 v4 v5:Int):@Eq _ (wZ R L v0 v1 v4 v5 ([1,0,1,0]++[0])) (cond (decide (v5 < (v0.length:Int))) (cond (zA v5) (cond (Ab v5.toNat v0.length) (cond (zA v5) (cond (Ab v5.toNat (v0.set v5.toNat (v1,(v0.getD v5.toNat (0,(0,()))).2)).length) (wZ R L ((v0.set v5.toNat (v1,(v0.getD v5.toNat (0,(0,()))).2)).set v5.toNat (((v0.set v5.toNat (v1,(v0.getD v5.toNat (0,(0,()))).2)).getD v5.toNat (0,(0,()))).1,(Aa .i64 (v1+1),((v0.set v5.toNat (v1,(v0.getD v5.toNat (0,(0,()))).2)).getD v5.toNat (0,(0,()))).2.2))) (Aa .i64 ((Aa .i64 (v1+1))+1)) v4 (Aa .i64 (v5+1))) none) none) none) none) (some (v1,(v0,())))):=by kernel_rfl
theorem Aq3 (x0:List (List d68)) (x1:Int):@Eq _ (jB (zF EE R L) x0 x1) (vW R L x0 x1 0 0):=by kernel_rfl
theorem aL (v0:List (List d68)) (v1 v4 v5:Int):@Eq _ (vW R L v0 v1 v4 v5 ([1,0,1,0]++[0])) (cond (decide (v5 < (v0.length:Int))) (cond (zA v5) (cond (Ab v5.toNat v0.length) ((gY R (v0.getD v5.toNat []) v1).bind fun r0=>vW R L (v0.set v5.toNat r0.2.1) r0.1 v4 (Aa .i64 (v5+1))) none) none) (some (v1,(v0,())))):=by kernel_rfl
theorem Ab7 (x0:List d69) (x1:Int):@Eq _ (nR (zF EE R L) x0 x1) (wD R L x0 x1 0 0):=by kernel_rfl
theorem eE (v0:List d69) (v1 v4 v5:Int):@Eq _ (wD R L v0 v1 v4 v5 ([1,0,1,0]++[0])) (cond (decide (v5 < (v0.length:Int))) (cond (zA v5) (cond (Ab v5.toNat v0.length) (cond (zA v5) (cond (Ab v5.toNat (v0.set v5.toNat (v1,(v0.getD v5.toNat (0,([],()))).2)).length) ((gQ R ((v0.set v5.toNat (v1,(v0.getD v5.toNat (0,([],()))).2)).getD v5.toNat (0,([],()))).2.1 (Aa .i64 (v1+1))).bind fun r0=>wD R L ((v0.set v5.toNat (v1,(v0.getD v5.toNat (0,([],()))).2)).set v5.toNat (((v0.set v5.toNat (v1,(v0.getD v5.toNat (0,([],()))).2)).getD v5.toNat (0,([],()))).1,(r0.2.1,((v0.set v5.toNat (v1,(v0.getD v5.toNat (0,([],()))).2)).getD v5.toNat (0,([],()))).2.2))) r0.1 v4 (Aa .i64 (v5+1))) none) none) none) none) (some (v1,(v0,())))):=by kernel_rfl
theorem As6 (x0:d70) (x1:Int):@Eq _ (pX (zF EE R L) x0 x1) ((jS R x0.1 x1).bind fun r0=>(oL R x0.2.1 r0.1).bind fun r1=>(lQ R x0.2.2.1 r1.1).bind fun r2=>(jB R x0.2.2.2.1 r2.1).bind fun r3=>(nR R x0.2.2.2.2.1 r3.1).bind fun r4=>some (r4.1,((r0.2.1,(r1.2.1,(r2.2.1,(r3.2.1,(r4.2.1,x0.2.2.2.2.2))))),()))):=by kernel_rfl
theorem Af1 (x0:List d66) (x1:Int):@Eq _ (lP (zF EE R L) x0 x1) (vA R L x0 x1 0 0):=by kernel_rfl
theorem cT (v0:List d66) (v1 v4 v5:Int):@Eq _ (vA R L v0 v1 v4 v5 ([1,0,1,0]++[0])) (cond (decide (v5 < (v0.length:Int))) (cond (zA v5) (cond (Ab v5.toNat v0.length) (cond (!(eqI (v0.getD v5.toNat (0,(0,()))).1 v1)) (some (-1,())) (cond (zA v5) (cond (Ab v5.toNat v0.length) (cond (!(eqI (v0.getD v5.toNat (0,(0,()))).2.1 (Aa .i64 (v1+1)))) (some (-1,())) (vA R L v0 (Aa .i64 ((Aa .i64 (v1+1))+1)) v4 (Aa .i64 (v5+1)))) none) none)) none) none) (some (v1,()))):=by kernel_rfl
theorem A2A (x0:List d67) (x1:Int):@Eq _ (eN (zF EE R L) x0 x1) (tI R L x0 x1 0 0):=by kernel_rfl
theorem AK8 (v0:List d67) (v1 v4 v5:Int):@Eq _ (tI R L v0 v1 v4 v5 ([1,0,1,0]++[0])) (cond (decide (v5 < (v0.length:Int))) (cond (zA v5) (cond (Ab v5.toNat v0.length) (cond (!(eqI (v0.getD v5.toNat (0,(0,(0,())))).1 v1)) (some (-1,())) (cond (zA v5) (cond (Ab v5.toNat v0.length) (cond (!(eqI (v0.getD v5.toNat (0,(0,(0,())))).2.1 (Aa .i64 (v1+1)))) (some (-1,())) (cond (zA v5) (cond (Ab v5.toNat v0.length) (cond (!(eqI (v0.getD v5.toNat (0,(0,(0,())))).2.2.1 (Aa .i64 ((Aa .i64 (v1+1))+1)))) (some (-1,())) (tI R L v0 (Aa .i64 ((Aa .i64 ((Aa .i64 (v1+1))+1))+1)) v4 (Aa .i64 (v5+1)))) none) none)) none) none)) none) none) (some (v1,()))):=by kernel_rfl
theorem A0N (x0:List d68) (x1:Int):@Eq _ (gZ (zF EE R L) x0 x1) (uQ R L x0 x1 0 0):=by kernel_rfl
theorem AF3 (v0:List d68) (v1 v4 v5:Int):@Eq _ (uQ R L v0 v1 v4 v5 ([1,0,1,0]++[0])) (cond (decide (v5 < (v0.length:Int))) (cond (zA v5) (cond (Ab v5.toNat v0.length) ((eN R (v0.getD v5.toNat ([],())).1 v1).bind fun r0=>cond (decide (r0.1 < 0)) (some (-1,())) (uQ R L v0 r0.1 v4 (Aa .i64 (v5+1)))) none) none) (some (v1,()))):=by kernel_rfl
theorem Aq9 (x0:List (List d68)) (x1:Int):@Eq _ (jT (zF EE R L) x0 x1) (vU R L x0 x1 0 0):=by kernel_rfl
theorem bS (v0:List (List d68)) (v1 v4 v5:Int):@Eq _ (vU R L v0 v1 v4 v5 ([1,0,1,0]++[0])) (cond (decide (v5 < (v0.length:Int))) (cond (zA v5) (cond (Ab v5.toNat v0.length) ((gZ R (v0.getD v5.toNat []) v1).bind fun r0=>cond (decide (r0.1 < 0)) (some (-1,())) (vU R L v0 r0.1 v4 (Aa .i64 (v5+1)))) none) none) (some (v1,()))):=by kernel_rfl
theorem A0o (x0:List Int) (x1:Int):@Eq _ (gP (zF EE R L) x0 x1) (uO R L x0 x1 0 0):=by kernel_rfl
theorem AE8 (v0:List Int) (v1 v4 v5:Int):@Eq _ (uO R L v0 v1 v4 v5 ([1,0,1,0]++[0])) (cond (decide (v5 < (v0.length:Int))) (cond (zA v5) (cond (Ab v5.toNat v0.length) (cond (!(eqI (v0.getD v5.toNat 0) v1)) (some (-1,())) (uO R L v0 (Aa .i64 (v1+1)) v4 (Aa .i64 (v5+1)))) none) none) (some (v1,()))):=by kernel_rfl
theorem AX4 (x0:List d69) (x1:Int):@Eq _ (nU (zF EE R L) x0 x1) (wF R L x0 x1 0 0):=by kernel_rfl
theorem fP (v0:List d69) (v1 v4 v5:Int):@Eq _ (wF R L v0 v1 v4 v5 ([1,0,1,0]++[0])) (cond (decide (v5 < (v0.length:Int))) (cond (zA v5) (cond (Ab v5.toNat v0.length) (cond (!(eqI (v0.getD v5.toNat (0,([],()))).1 v1)) (some (-1,())) (cond (zA v5) (cond (Ab v5.toNat v0.length) ((gP R (v0.getD v5.toNat (0,([],()))).2.1 (Aa .i64 (v1+1))).bind fun r0=>cond (decide (r0.1 < 0)) (some (-1,())) (wF R L v0 r0.1 v4 (Aa .i64 (v5+1)))) none) none)) none) none) (some (v1,()))):=by kernel_rfl
theorem Ar7 (x0:d70) (x1:Int):@Eq _ (rZ (zF EE R L) x0 x1) ((jP R x0.1 x1).bind fun r0=>cond (decide (r0.1 < 0)) (some (-1,())) ((oN R x0.2.1 r0.1).bind fun r1=>cond (decide (r1.1 < 0)) (some (-1,())) ((lP R x0.2.2.1 r1.1).bind fun r2=>cond (decide (r2.1 < 0)) (some (-1,())) ((jT R x0.2.2.2.1 r2.1).bind fun r3=>cond (decide (r3.1 < 0)) (some (-1,())) ((nU R x0.2.2.2.2.1 r3.1).bind fun r4=>cond (decide (r4.1 < 0)) (some (-1,())) (some (r4.1,()))))))):=by kernel_rfl
theorem A0P (x0 x1:Int):@Eq _ (kI (zF EE R L) x0 x1) (rN R L x0 x1 [] 0):=by kernel_rfl
theorem AD6 (v0 v1:Int) (v5:List Int) (v6:Int):@Eq _ (rN R L v0 v1 v5 v6 ([1,1,0,1,0]++[0])) (cond (decide (v6 < v1)) (cond (zX (v5.length+([yU .and .i64 (Ah (yU .and .i64 (Aa .i64 ((Aa .i64 (1103515245 * v0))+12345)) 2147483647) (2 ^ (Af (16:Int).toNat (Ac .i64)))) 7]).length)) (rN R L (yU .and .i64 (Aa .i64 ((Aa .i64 (1103515245 * v0))+12345)) 2147483647) v1 (v5++[yU .and .i64 (Ah (yU .and .i64 (Aa .i64 ((Aa .i64 (1103515245 * v0))+12345)) 2147483647) (2 ^ (Af (16:Int).toNat (Ac .i64)))) 7]) (Aa .i64 (v6+1))) none) (some (v5,()))):=by kernel_rfl
theorem A5f (x0 x1:Int):@Eq _ (bO (zF EE R L) x0 x1) (nC R L x0 [] x1 0):=by kernel_rfl
theorem AY7 (v0:Int) (v5:List Int) (v6 v7:Int):@Eq _ (nC R L v0 v5 v6 v7 ([1,1,0,1,0]++[0])) (cond (decide (v7 < v6)) (cond (zX (v5.length+([Ae (Aa .i64 (Ai (Ae (Aa .i64 ((Aa .i64 (1103515245 * v0))+12345)) 2147483648) 65536)) 8]).length)) (nC R L (Ae (Aa .i64 ((Aa .i64 (1103515245 * v0))+12345)) 2147483648) (v5++[Ae (Aa .i64 (Ai (Ae (Aa .i64 ((Aa .i64 (1103515245 * v0))+12345)) 2147483648) 65536)) 8]) v6 (Aa .i64 (v7+1))) none) (some (v5,()))):=by kernel_rfl
end Go.Rf.S

end
section
namespace Go.Rf.S
open Go.Proofs
set_option maxRecDepth 100000
instance BT0:Laid:=⟨[]⟩
def BS2:List Dyn→Option (Ty.pair .str .unit).D
 | [k,n,c,t]=>(A6c k).bind fun k=>(A6c n).bind fun n=>(BB8 c).bind fun c=>(A6c t).bind fun t=>some (chX k n (t.length / 64+1) c.toNat t,())
 | _=>none
def itx (x:Int):List UInt8:=ub (lit x.toNat 4)
def BO6:List Dyn→Option (Ty.pair .str .unit).D
 | [l]=>(BS7 (.int .i64) l).bind fun l=>some (l.flatMap itx,())
 | _=>none
noncomputable def X:(f:FuncId)→Option (List Dyn→Option (EE.cfg f).rt.D)
 | 311=>some BN8
 | 273=>some (okH EE 273 BS2)
 | 275=>some (okH EE 275 BO6)
 | _=>none
noncomputable abbrev R:Run EE:=run X
noncomputable abbrev L:nW:=lps X
theorem BB0 {f:FuncId} {h:List Dyn→Option (EE.cfg f).rt.D} (hX:X f=some h) (ds:List Dyn):run X f ds=h ds:=by
 rw[A9f];unfold AH3;rw[hX]
theorem call {f:FuncId} {ds:List Dyn} {r:Option (EE.cfg f).rt.D} (h:zF EE R L f ds=r) (hX:X f=none:=by rfl):R f ds=r:=(BI0 X hX ds).trans h
theorem round {f:FuncId} {fn:Func} {p:List Nat} {σ:List SV} {r:Option (EE.cfg f).rt.D} (h:(mA (A2i fn) p&&!A4V (EE.cfg f).keep)=true) (q:zQ EE R L f fn (p++[0]) σ=r):zQ EE R L f fn p σ=r:=(A5m h).trans q
theorem BR5:∀ f h,X f=some h→∀ ds x,h ds=some x→A9R EE f ds x:=by
 intro f h hX ds x hx
 unfold X at hX
 split at hX
 ·cases hX
  obtain⟨s,n,rfl,h1,h2,rfl⟩:=A7P hx
  exact A6a (E:=EE) Tryz.laysRep Tryz.extra rfl Tryz.func311 (by kernel_rfl) (by kernel_rfl) s n h1 h2
 ·cases hX;exact A8z hx
 ·cases hX;exact A8z hx
 ·cases hX
theorem mixed:EE.P.follows .mixedOrders=true:=by kernel_rfl
theorem A9y:AO0 EE.P:=Aj6 (by kernel_rfl)
theorem A5j:Ag0 EE R:=A81 X BR5 mixed A9y
end Go.Rf.S

end
section
namespace Go.Rf.S
set_option maxRecDepth 100000
theorem Ad8 {k:IntKind} {a b:Nat} (h:a+b < uV k):Aa k ((a:Int)+(b:Int))=((a+b:Nat):Int):=by
 rw[show (a:Int)+(b:Int)=((a+b:Nat):Int) from by omega,AL0 h]
theorem A9Q (a b:Nat):Aa .u32 ((a:Int)+(b:Int))=(((a+b) % 4294967296:Nat):Int):=by
 rw[show (a:Int)+(b:Int)=((a+b:Nat):Int) from by omega,Ad5]
theorem m32 {a:Nat} (h:a < 9223372036854775808):yU .and .i64 (a:Int) 4294967295=((a % 4294967296:Nat):Int):=by
 rw[show (4294967295:Int)=((4294967295:Nat):Int) from rfl,AG5 (k:=.i64) h (by decide),BC4]
theorem A5S {a c:Nat} (h:c≤a) (ha:a < 9223372036854775808):Aa .i64 ((a:Int) - (c:Int))=((a - c:Nat):Int):=by
 rw[yI (by omega) (by omega)];omega
theorem Ax7 {k:IntKind} {a n:Nat} (h:a * 2 ^ n < uV k):Aa k ((a:Int) * (2 ^ n:Int))=((a * 2 ^ n:Nat):Int):=by
 rw[A3m,AL0 h]
theorem BQ0:∀ n:Fin 32,0 < n.val→yU .and .u64 (Aa .u64 (BE9 .i64 (n.val:Int))) 31=((32 - n.val:Nat):Int):=by decide +kernel
theorem BN1 (x n:Nat) (hx:x < 4294967296) (h0:0 < n) (hn:n < 32):yM R (x:Int) (BE9 .i64 (n:Int))=some (((rr n x:Nat):Int),()):=by
 have hq:yM R (x:Int) (BE9 .i64 (n:Int))=_:=call (nK R L (x:Int) (BE9 .i64 (n:Int)))
 have e1:=BQ0 ⟨n,hn⟩ h0
 simp only at e1
 have e2:Aa .u64 ((32:Int) - ((32 - n:Nat):Int))=(n:Int):=by
  rw[show (32:Int) - ((32 - n:Nat):Int)=(n:Int) by omega,AL0 (by simp only[uV];omega)]
 rw[hq,e1,e2,A3 (show ¬ ((n:Int) < 0) by omega)]
 simp only[cond_false,tn]
 rw[show Af (32 - n) (Ac .u32)=32 - n from Aq (by simp only[Ac];omega),show Af n (Ac .u32)=n from Aq (by simp only[Ac];omega),A3m,Ad5,mE,
  Aa9 (k:=.u32) (wA _) (pV _ hx)]
 unfold rr rl
 rw[show 32 - (32 - n)=n by omega]
theorem lV (x n:Nat) (hx:x < 4294967296) (h0:0 < n) (hn:n < 32):xB R (x:Int) (n:Int)=some (((rr n x:Nat):Int),()):=by
 have hq:xB R (x:Int) (n:Int)=_:=call (A4c R L (x:Int) (n:Int))
 rw[hq,BN1 x n hx h0 hn]
 rfl
theorem fJ (x n:Nat) (hx:x < 4294967296) (h0:0 < n) (hn:n < 32):yC R (x:Int) (n:Int)=some (((rr n x:Nat):Int),()):=by
 have hq:yC R (x:Int) (n:Int)=_:=call (A0R R L (x:Int) (n:Int))
 have e2:Aa .i64 ((32:Int) - (n:Int))=((32 - n:Nat):Int):=by
  rw[yI (by omega) (by omega)];omega
 have hb:x * 2 ^ (32 - n) < 9223372036854775808:=by
  have h1:2 ^ (32 - n)≤2 ^ 31:=Nat.pow_le_pow_right (by decide) (by omega)
  have h2:x * 2 ^ (32 - n)≤x * 2 ^ 31:=Nat.mul_le_mul_left _ h1
  omega
 rw[hq,e2,A3 (show ¬ ((n:Int) < 0) by omega),A3 (show ¬ (((32 - n:Nat):Int) < 0) by omega)]
 simp only[cond_false,tn]
 rw[show Af (32 - n) (Ac .i64)=32 - n from Aq (by simp only[Ac];omega),show Af n (Ac .i64)=n from Aq (by simp only[Ac];omega),Ax7 (k:=.i64) hb,mE,
  Aa9 (k:=.i64) (Nat.lt_trans (pV _ hx) (by decide)) hb,m32 (AN (n:=63) (Nat.lt_trans (pV _ hx) (by decide)) hb),BA5 (by omega) hx]
theorem R7 {x:Nat} (hx:x < 4294967296):yC R (x:Int) 7=some (((rr 7 x:Nat):Int),()):=fJ x 7 hx (by decide) (by decide)
theorem T7 {x:Nat} (hx:x < 4294967296):xB R (x:Int) 7=some (((rr 7 x:Nat):Int),()):=lV x 7 hx (by decide) (by decide)
theorem R18 {x:Nat} (hx:x < 4294967296):yC R (x:Int) 18=some (((rr 18 x:Nat):Int),()):=fJ x 18 hx (by decide) (by decide)
theorem T18 {x:Nat} (hx:x < 4294967296):xB R (x:Int) 18=some (((rr 18 x:Nat):Int),()):=lV x 18 hx (by decide) (by decide)
theorem R17 {x:Nat} (hx:x < 4294967296):yC R (x:Int) 17=some (((rr 17 x:Nat):Int),()):=fJ x 17 hx (by decide) (by decide)
theorem T17 {x:Nat} (hx:x < 4294967296):xB R (x:Int) 17=some (((rr 17 x:Nat):Int),()):=lV x 17 hx (by decide) (by decide)
theorem R19 {x:Nat} (hx:x < 4294967296):yC R (x:Int) 19=some (((rr 19 x:Nat):Int),()):=fJ x 19 hx (by decide) (by decide)
theorem T19 {x:Nat} (hx:x < 4294967296):xB R (x:Int) 19=some (((rr 19 x:Nat):Int),()):=lV x 19 hx (by decide) (by decide)
theorem R6 {x:Nat} (hx:x < 4294967296):yC R (x:Int) 6=some (((rr 6 x:Nat):Int),()):=fJ x 6 hx (by decide) (by decide)
theorem T6 {x:Nat} (hx:x < 4294967296):xB R (x:Int) 6=some (((rr 6 x:Nat):Int),()):=lV x 6 hx (by decide) (by decide)
theorem R11 {x:Nat} (hx:x < 4294967296):yC R (x:Int) 11=some (((rr 11 x:Nat):Int),()):=fJ x 11 hx (by decide) (by decide)
theorem T11 {x:Nat} (hx:x < 4294967296):xB R (x:Int) 11=some (((rr 11 x:Nat):Int),()):=lV x 11 hx (by decide) (by decide)
theorem R25 {x:Nat} (hx:x < 4294967296):yC R (x:Int) 25=some (((rr 25 x:Nat):Int),()):=fJ x 25 hx (by decide) (by decide)
theorem T25 {x:Nat} (hx:x < 4294967296):xB R (x:Int) 25=some (((rr 25 x:Nat):Int),()):=lV x 25 hx (by decide) (by decide)
theorem R2 {x:Nat} (hx:x < 4294967296):yC R (x:Int) 2=some (((rr 2 x:Nat):Int),()):=fJ x 2 hx (by decide) (by decide)
theorem T2 {x:Nat} (hx:x < 4294967296):xB R (x:Int) 2=some (((rr 2 x:Nat):Int),()):=lV x 2 hx (by decide) (by decide)
theorem R13 {x:Nat} (hx:x < 4294967296):yC R (x:Int) 13=some (((rr 13 x:Nat):Int),()):=fJ x 13 hx (by decide) (by decide)
theorem T13 {x:Nat} (hx:x < 4294967296):xB R (x:Int) 13=some (((rr 13 x:Nat):Int),()):=lV x 13 hx (by decide) (by decide)
theorem R22 {x:Nat} (hx:x < 4294967296):yC R (x:Int) 22=some (((rr 22 x:Nat):Int),()):=fJ x 22 hx (by decide) (by decide)
theorem T22 {x:Nat} (hx:x < 4294967296):xB R (x:Int) 22=some (((rr 22 x:Nat):Int),()):=lV x 22 hx (by decide) (by decide)
theorem Ax1 {k:IntKind} (hk:256≤uV k) (b:UInt8):Aa k ((b.toNat:Nat):Int)=((b.toNat:Nat):Int):=AL0 (Ap (Bv _) hk)
theorem BG5 {k:IntKind} (hk:4294967296≤uV k) {a b:Nat} (ha:a < 4294967296) (hb:b < 4294967296):yU .or k (a:Int) (b:Int)=((a ||| b:Nat):Int):=Aa9 (Ap ha hk) (Ap hb hk)
theorem cZ {k:IntKind} (hk:4294967296≤uV k) {a b:Nat} (ha:a < 4294967296) (hb:b < 4294967296):yU .xor k (a:Int) (b:Int)=((a ^^^ b:Nat):Int):=A2O (Ap ha hk) (Ap hb hk)
theorem A6f {k:IntKind} (hk:4294967296≤uV k) {a b:Nat} (ha:a < 4294967296) (hb:b < 4294967296):yU .and k (a:Int) (b:Int)=((a &&& b:Nat):Int):=AG5 (Ap ha hk) (Ap hb hk)
theorem A9X (k:IntKind) (hk:4294967296≤uV k) (h32:32≤k.bits) (t:List UInt8) (i:Nat):
  yU .or k (yU .or k (yU .or k (Aa k (Aa k (((t.getD i 0).toNat:Nat):Int) * ((2:Int) ^ Af (An 24) k.bits)))
   (Aa k (Aa k (((t.getD (i+1) 0).toNat:Nat):Int) * ((2:Int) ^ Af (An 16) k.bits))))
   (Aa k (Aa k (((t.getD (i+2) 0).toNat:Nat):Int) * ((2:Int) ^ Af (An 8) k.bits))))
   (Aa k (((t.getD (i+3) 0).toNat:Nat):Int))=((wBE t i:Nat):Int):=by
 have h0:=sI t i;have h1:=sI t (i+1);have h2:=sI t (i+2);have h3:=sI t (i+3)
 have m24:Af (An 24) k.bits=24:=Aq (by show 24≤_;omega)
 have m16:Af (An 16) k.bits=16:=Aq (by show 16≤_;omega)
 have m8:Af (An 8) k.bits=8:=Aq (by show 8≤_;omega)
 have hk8:256≤uV k:=Bp (by decide) hk
 unfold bt at h0 h1 h2 h3
 rw[m24,m16,m8,Ax1 hk8,Ax1 hk8,Ax1 hk8,Ax1 hk8,Ax7 (by omega),Ax7 (by omega),Ax7 (by omega),BG5 hk (by omega) (by omega),BG5 hk (lG (by omega) (by omega)) (by omega),BG5 hk (lG (lG (by omega) (by omega)) (by omega)) (by omega)]
 rfl
theorem AX6 {i:Nat} (c:Nat) (h:i+c < 9223372036854775808):Aa .i64 ((i:Int)+(c:Int))=((i+c:Nat):Int):=Ad8 h
theorem BI3 (t:List UInt8) (i:Nat) (h:i+3 < t.length) (hi:i < 1099511627776):cI R t (i:Int)=some (((wBE t i:Nat):Int),()):=by
 have hq:cI R t (i:Int)=_:=call (A1M R L t (i:Int))
 have e1:Aa .i64 ((i:Int)+1)=((i+1:Nat):Int):=AX6 1 (by omega)
 have e2:Aa .i64 ((i:Int)+2)=((i+2:Nat):Int):=AX6 2 (by omega)
 have e3:Aa .i64 ((i:Int)+3)=((i+3:Nat):Int):=AX6 3 (by omega)
 rw[hq,e1,e2,e3]
 simp only[nn,tn,zT (show i < t.length by omega),zT (show i+1 < t.length by omega),zT (show i+2 < t.length by omega),zT h,A5]
 rw[A9X .i64 (by decide) (by decide)]
end Go.Rf.S

end
section
namespace Go.Rf.S
set_option maxRecDepth 100000
theorem g0C (k:IntKind) (hk:4294967296≤uV k) (h32:32≤k.bits) {x:Nat} (h:x < 4294967296):
  yU .xor k (yU .xor k ((rr 7 x:Nat):Int) ((rr 18 x:Nat):Int)) (Ah (x:Int) ((2:Int) ^ Af (An 3) k.bits))=((g0 x:Nat):Int):=by
 rw[show Af (An 3) k.bits=3 from Aq (by show 3≤_;omega),mE,cZ hk (mN h) (mN h),cZ hk (yX (mN h) (mN h)) (pV _ h)]
 rfl
theorem g1C (k:IntKind) (hk:4294967296≤uV k) (h32:32≤k.bits) {x:Nat} (h:x < 4294967296):
  yU .xor k (yU .xor k ((rr 17 x:Nat):Int) ((rr 19 x:Nat):Int)) (Ah (x:Int) ((2:Int) ^ Af (An 10) k.bits))=((g1 x:Nat):Int):=by
 rw[show Af (An 10) k.bits=10 from Aq (by show 10≤_;omega),mE,cZ hk (mN h) (mN h),cZ hk (yX (mN h) (mN h)) (pV _ h)]
 rfl
theorem S1C (k:IntKind) (hk:4294967296≤uV k) {x:Nat} (h:x < 4294967296):
  yU .xor k (yU .xor k ((rr 6 x:Nat):Int) ((rr 11 x:Nat):Int)) ((rr 25 x:Nat):Int)=((S1 x:Nat):Int):=by
 rw[cZ hk (mN h) (mN h),cZ hk (yX (mN h) (mN h)) (mN h)]
 rfl
theorem S0C (k:IntKind) (hk:4294967296≤uV k) {x:Nat} (h:x < 4294967296):
  yU .xor k (yU .xor k ((rr 2 x:Nat):Int) ((rr 13 x:Nat):Int)) ((rr 22 x:Nat):Int)=((S0 x:Nat):Int):=by
 rw[cZ hk (mN h) (mN h),cZ hk (yX (mN h) (mN h)) (mN h)]
 rfl
theorem chC (k:IntKind) (hk:4294967296≤uV k) {e f g:Nat} (he:e < 4294967296) (hf:f < 4294967296) (hg:g < 4294967296):
  yU .xor k (yU .and k (e:Int) (f:Int)) (yU .and k (yU .xor k 4294967295 (e:Int)) (g:Int))=((ch e f g:Nat):Int):=by
 rw[show (4294967295:Int)=((4294967295:Nat):Int) from rfl,A6f hk he hf,cZ hk (by decide) he,A6f hk (yX (by decide) he) hg,cZ hk (oR he) (oR (yX (by decide) he))]
 rfl
theorem mjC (k:IntKind) (hk:4294967296≤uV k) {e f g:Nat} (he:e < 4294967296) (hf:f < 4294967296) (hg:g < 4294967296):
  yU .xor k (yU .xor k (yU .and k (e:Int) (f:Int)) (yU .and k (e:Int) (g:Int))) (yU .and k (f:Int) (g:Int))=((mj e f g:Nat):Int):=by
 rw[A6f hk he hf,A6f hk he hg,A6f hk hf hg,cZ hk (oR he) (oR he),cZ hk (yX (oR he) (oR he)) (oR hf)]
 rfl
def Wd (n:Nat) (w:List Nat):Prop:=w.length=n∧Bd 4294967296 w
theorem Wd.g {n:Nat} {w:List Nat} (h:Wd n w) (i:Nat):w.getD i 0 < 4294967296:=h.2.get (by decide) i
theorem Wd.s {n:Nat} {w:List Nat} (h:Wd n w) {i a:Nat} (ha:a < 4294967296):Wd n (w.set i a):=⟨by rw[Bt];exact h.1,h.2.set ha⟩
theorem Wd.rep (n:Nat):Wd n (Ad n 0):=⟨List.length_replicate,Bd.rep (by decide)⟩
theorem BM3 {t:List UInt8} {i:Nat} {w:List Nat} (h:Wd 64 w):Wd 64 (stA t i w):=h.s (BM6 _ _)
theorem BM7 {i:Nat} {w:List Nat} (h:Wd 64 w):Wd 64 (stB i w):=h.s (wA _)
theorem BH1 {k w v:List Nat} {i:Nat} (h:Wd 8 v):Wd 8 (stC k w i v):=⟨rfl,fun x hx=>by
 simp only[stC,List.mem_cons,List.not_mem_nil,or_false] at hx
 rcases hx with rfl|rfl|rfl|rfl|rfl|rfl|rfl|rfl
 ·exact wA _
 ·exact h.g 0
 ·exact h.g 1
 ·exact h.g 2
 ·exact wA _
 ·exact h.g 4
 ·exact h.g 5
 ·exact h.g 6⟩
theorem BB5 {v:List Nat} {i:Nat} {w:List Nat} {n:Nat} (h:Wd n w):Wd n (stD v i w):=h.s (wA _)
def kT:List Nat:=[1116352408,1899447441,3049323471,3921009573,961987163,1508970993,2453635748,2870763221,3624381080,310598401,607225278,1426881987,1925078388,2162078206,2614888103,3248222580,3835390401,4022224774,264347078,604807628,770255983,1249150122,1555081692,1996064986,2554220882,2821834349,2952996808,3210313671,3336571891,3584528711,113926993,338241895,666307205,773529912,1294757372,1396182291,1695183700,1986661051,2177026350,2456956037,2730485921,2820302411,3259730800,3345764771,3516065817,3600352804,4094571909,275423344,430227734,506948616,659060556,883997877,958139571,1322822218,1537002063,1747873779,1955562222,2024104815,2227730452,2361852424,2428436474,2756734187,3204031479,3329325298]
def hT:List Nat:=[1779033703,3144134277,1013904242,2773480762,1359893119,2600822924,528734635,1541459225]
theorem BI7:Wd 8 hT:=⟨rfl,by intro x hx;revert x;decide⟩
theorem BS0:Wd 64 kT:=⟨rfl,by intro x hx;revert x;decide⟩
theorem BA7:bZ R=some (cl kT,()):=call (Ax3 R L)
theorem A1l:dC R=some (cl kT,()):=call (An9 R L)
theorem A97:aC R=some (cl hT,()):=call (Az4 R L)
theorem BH7 (t:List UInt8) (ht:64≤t.length) (v2 v4:List Int):
  vI R L t v2 v4 (cl (Ad 64 0)) 0=xD R L v2 v4 (cl (xO (stA t) 16 0 (Ad 64 0))) 16∧Wd 64 (xO (stA t) 16 0 (Ad 64 0)):=
 yE (fun (w:List Nat) i=>vI R L t v2 v4 (cl w) i) (stA t) (fun _ w=>Wd 64 w) 16 (fun w=>xD R L v2 v4 (cl w) 16)
  (fun w hw=>by
   have hq:vI R L t v2 v4 (cl w) (16:Nat)=_:=round (by kernel_rfl) (AC7 R L t v2 v4 (cl w) (16:Nat))
   show vI R L t v2 v4 (cl w) (16:Nat)=_
   rw[hq];rfl)
  (fun w i hi hw=>by
   have hq:vI R L t v2 v4 (cl w) (i:Nat)=_:=round (by kernel_rfl) (AC7 R L t v2 v4 (cl w) (i:Nat))
   refine⟨?_,BM3 hw⟩
   show vI R L t v2 v4 (cl w) (i:Nat)=_
   have e4:Aa .i64 ((4:Int) * (i:Int))=((4 * i:Nat):Int):=by rw[yI (by omega) (by omega)];omega
   rw[hq,show decide ((i:Int) < 16)=true from Ar (by omega),e4,BI3 t (4 * i) (by omega) (by omega),zB (by omega)]
   simp only[nn,tn,A5,A6]
   rw[zT (show i < 64 by omega),uB]
   rfl)
  (Ad 64 0) (Wd.rep 64)
theorem BJ7 (v2 v4:List Int) (w0:List Nat) (h0:Wd 64 w0):
  xD R L v2 v4 (cl w0) 16=xL R L v2 v4 (cl (xO stB 48 0 w0)) (cl kT) v2 0∧Wd 64 (xO stB 48 0 w0):=by
 have h:xD R L v2 v4 (cl w0) (0+16)=xL R L v2 v4 (cl (xO stB 48 0 w0)) (cl kT) v2 0∧Wd 64 (xO stB 48 0 w0):=yE (fun (w:List Nat) i=>xD R L v2 v4 (cl w) (i+16)) stB (fun _ w=>Wd 64 w) 48 (fun w=>xL R L v2 v4 (cl w) (cl kT) v2 0)
  (fun w hw=>by
   have hq:xD R L v2 v4 (cl w) (64:Nat)=_:=round (by kernel_rfl) (AE0 R L v2 v4 (cl w) (64:Nat))
   show xD R L v2 v4 (cl w) (64:Nat)=_
   rw[hq,show decide (((64:Nat):Int) < 64)=false from by decide,BA7];rfl)
  (fun w i hi hw=>by
   have hq:xD R L v2 v4 (cl w) ((i+16:Nat):Int)=_:=round (by kernel_rfl) (AE0 R L v2 v4 (cl w) ((i+16:Nat):Int))
   refine⟨?_,BM7 hw⟩
   show xD R L v2 v4 (cl w) ((i:Int)+16)=xD R L v2 v4 (cl (stB i w)) (((i+1:Nat):Int)+16)
   rw[show (i:Int)+16=((i+16:Nat):Int) by omega,show ((i+1:Nat):Int)+16=((i+16+1:Nat):Int) by omega]
   have e15:Aa .i64 (((i+16:Nat):Int) - 15)=((i+1:Nat):Int):=A5S (c:=15) (by omega) (by omega)
   have e2:Aa .i64 (((i+16:Nat):Int) - 2)=((i+14:Nat):Int):=A5S (c:=2) (by omega) (by omega)
   have e16:Aa .i64 (((i+16:Nat):Int) - 16)=((i:Nat):Int):=A5S (c:=16) (by omega) (by omega)
   have e7:Aa .i64 (((i+16:Nat):Int) - 7)=((i+9:Nat):Int):=A5S (c:=7) (by omega) (by omega)
   have a1:=hw.g (i+1);have a14:=hw.g (i+14);have a0:=hw.g i;have a9:=hw.g (i+9)
   have b1:=BR1 a1;have b2:=BR2 a14
   rw[hq,show decide (((i+16:Nat):Int) < 64)=true from Ar (by omega),e15,e2,e16,e7,zB (by omega)]
   simp only[nn,tn,A5,zT (show i+1 < 64 by omega),zT (show i+14 < 64 by omega),zT (show i < 64 by omega),zT (show i+9 < 64 by omega),zT (show i+16 < 64 by omega),zY]
   rw[R7 a1,R18 a1,R17 a14,R19 a14]
   simp only[A6]
   rw[g0C .i64 (by decide) (by decide) a1,g1C .i64 (by decide) (by decide) a14,Ad8 (by simp only[uV];omega),Ad8 (by simp only[uV];omega),Ad8 (by simp only[uV];omega),m32 (by omega),uB]
   rfl)
  w0 h0
 rw[Int.zero_add] at h
 exact h
theorem BJ1 (v2 v4:List Int) (w v0:List Nat) (hw:Wd 64 w) (h0:Wd 8 v0):
  xL R L v2 v4 (cl w) (cl kT) (cl v0) 0=xS R L v2 v4 (cl (xO (stC kT w) 64 0 v0)) 0∧Wd 8 (xO (stC kT w) 64 0 v0):=
 yE (fun (v:List Nat) i=>xL R L v2 v4 (cl w) (cl kT) (cl v) i) (stC kT w) (fun _ v=>Wd 8 v) 64 (fun v=>xS R L v2 v4 (cl v) 0)
  (fun v hv=>by
   have hq:xL R L v2 v4 (cl w) (cl kT) (cl v) (64:Nat)=_:=round (by kernel_rfl) (AD2 R L v2 v4 (cl w) (cl kT) (cl v) (64:Nat))
   show xL R L v2 v4 (cl w) (cl kT) (cl v) (64:Nat)=_
   rw[hq];rfl)
  (fun v i hi hv=>by
   have hq:xL R L v2 v4 (cl w) (cl kT) (cl v) (i:Nat)=_:=round (by kernel_rfl) (AD2 R L v2 v4 (cl w) (cl kT) (cl v) (i:Nat))
   refine⟨?_,BH1 hv⟩
   show xL R L v2 v4 (cl w) (cl kT) (cl v) (i:Nat)=_
   have a0:=hv.g 0;have a1:=hv.g 1;have a2:=hv.g 2;have a3:=hv.g 3;have a4:=hv.g 4;have a5:=hv.g 5;have a6:=hv.g 6;have a7:=hv.g 7
   have ak:=BS0.g i;have aw:=hw.g i
   have b1:=BO7 a4;have b0:=BO2 a0;have bc:=BQ6 (f:=v.getD 5 0) (g:=v.getD 6 0) a4;have bm:=BO1 (c:=v.getD 2 0) a0 a1
   rw[hq,show decide ((i:Int) < 64)=true from Ar (by omega),zB (by omega)]
   simp only[nn,tn,A5,zT (show i < 64 by omega),zY,show An 0=0 from rfl,show An 1=1 from rfl,show An 2=2 from rfl,show An 3=3 from rfl,show An 4=4 from rfl,show An 5=5 from rfl,show An 6=6 from rfl,show An 7=7 from rfl]
   rw[R6 a4,R11 a4,R25 a4,R2 a0,R13 a0,R22 a0]
   simp only[A6]
   rw[S1C .i64 (by decide) a4,S0C .i64 (by decide) a0,chC .i64 (by decide) a4 a5 a6,mjC .i64 (by decide) a0 a1 a2]
   rw[Ad8 (a:=v.getD 7 0) (by simp only[uV];omega),Ad8 (b:=ch _ _ _) (by simp only[uV];omega),Ad8 (b:=kT.getD i 0) (by simp only[uV];omega),Ad8 (b:=w.getD i 0) (by simp only[uV];omega),Ad8 (b:=S0 _) (by simp only[uV];omega),Ad8 (b:=mj _ _ _) (by simp only[uV];omega),Ad8 (a:=v.getD 3 0) (by simp only[uV];omega),m32 (by omega),m32 (by omega)]
   rfl)
  v0 h0
theorem BK9 (v4:List Int) (v h0:List Nat) (hv:Wd 8 v) (hh:Wd 8 h0):
  xS R L (cl h0) v4 (cl v) 0=some (cl (xO (stD v) 8 0 h0),())∧Wd 8 (xO (stD v) 8 0 h0):=
 yE (fun (h:List Nat) i=>xS R L (cl h) v4 (cl v) i) (stD v) (fun _ h=>Wd 8 h) 8 (fun h=>some (cl h,()))
  (fun h _=>by
   have hq:xS R L (cl h) v4 (cl v) (8:Nat)=_:=round (by kernel_rfl) (AF7 R L (cl h) v4 (cl v) (8:Nat))
   show xS R L (cl h) v4 (cl v) (8:Nat)=_
   rw[hq];rfl)
  (fun h i hi hh=>by
   have hq:xS R L (cl h) v4 (cl v) (i:Nat)=_:=round (by kernel_rfl) (AF7 R L (cl h) v4 (cl v) (i:Nat))
   refine⟨?_,BB5 hh⟩
   show xS R L (cl h) v4 (cl v) (i:Nat)=_
   have a:=hh.g i;have b:=hv.g i
   rw[hq,show decide ((i:Int) < 8)=true from Ar (by omega),zB (by omega)]
   simp only[nn,tn,A5,zT (show i < 8 from hi),zY]
   rw[Ad8 (by simp only[uV];omega),m32 (by omega),uB]
   rfl)
  h0 hh
theorem A2R (h:List Nat) (t:List UInt8) (hh:Wd 8 h) (ht:64≤t.length):fC R (cl h) t=some (cl (A6n kT h t),())∧Wd 8 (A6n kT h t):=by
 have hq:fC R (cl h) t=_:=call (A0T R L (cl h) t)
 obtain⟨a1,a2⟩:=BH7 t ht (cl h) (Ad 8 0)
 obtain⟨b1,b2⟩:=BJ7 (cl h) (Ad 8 0) _ a2
 obtain⟨c1,c2⟩:=BJ1 (cl h) (Ad 8 0) _ h b2 hh
 obtain⟨d1,d2⟩:=BK9 (Ad 8 0) _ h c2 hh
 exact⟨hq.trans (a1.trans (b1.trans (c1.trans d1))),d2⟩
end Go.Rf.S

end
section
namespace Go.Rf.S
set_option maxRecDepth 100000
abbrev HS:Type:=List Int × (List UInt8 × (Int × Unit))
theorem BJ6 (v0:HS) (t:List UInt8) (ht:64≤t.length) (v2:List Int):
  yR R L v0 t v2 (cl (Ad 64 0)) 0=zP R L v0 v2 (cl (xO (stA t) 16 0 (Ad 64 0))) 16∧Wd 64 (xO (stA t) 16 0 (Ad 64 0)):=
 yE (fun (w:List Nat) i=>yR R L v0 t v2 (cl w) i) (stA t) (fun _ w=>Wd 64 w) 16 (fun w=>zP R L v0 v2 (cl w) 16)
  (fun w hw=>by
   have hq:yR R L v0 t v2 (cl w) (16:Nat)=_:=round (by kernel_rfl) (kQ R L v0 t v2 (cl w) (16:Nat))
   show yR R L v0 t v2 (cl w) (16:Nat)=_
   rw[hq];rfl)
  (fun w i hi hw=>by
   have hq:yR R L v0 t v2 (cl w) (i:Nat)=_:=round (by kernel_rfl) (kQ R L v0 t v2 (cl w) (i:Nat))
   refine⟨?_,BM3 hw⟩
   show yR R L v0 t v2 (cl w) (i:Nat)=_
   have e4:Aa .i64 ((4:Int) * (i:Int))=((4 * i:Nat):Int):=by rw[yI (by omega) (by omega)];omega
   have e1:Aa .i64 (((4 * i:Nat):Int)+1)=((4 * i+1:Nat):Int):=AX6 1 (by omega)
   have e2:Aa .i64 (((4 * i:Nat):Int)+2)=((4 * i+2:Nat):Int):=AX6 2 (by omega)
   have e3:Aa .i64 (((4 * i:Nat):Int)+3)=((4 * i+3:Nat):Int):=AX6 3 (by omega)
   rw[hq,show decide ((i:Int) < 16)=true from Ar (by omega),e4,e1,e2,e3,zB (by omega)]
   simp only[nn,tn,A5,zT (show 4 * i < t.length by omega),zT (show 4 * i+1 < t.length by omega),zT (show 4 * i+2 < t.length by omega),zT (show 4 * i+3 < t.length by omega)]
   rw[A9X .u32 (by decide) (by decide),zT (show i < 64 by omega),uB]
   rfl)
  (Ad 64 0) (Wd.rep 64)
theorem A95 (a b c d:Nat):(((a+b) % 4294967296+c) % 4294967296+d) % 4294967296=(a+b+c+d) % 4294967296:=by simp only[AR]
theorem BH2 (v0:HS) (v2:List Int) (w0:List Nat) (h0:Wd 64 w0):
  zP R L v0 v2 (cl w0) 16=zS R L v0 v2 (cl (xO stB 48 0 w0)) (Ad 8 0) v0.1 0∧Wd 64 (xO stB 48 0 w0):=by
 have h:zP R L v0 v2 (cl w0) (0+16)=zS R L v0 v2 (cl (xO stB 48 0 w0)) (Ad 8 0) v0.1 0∧Wd 64 (xO stB 48 0 w0):=
  yE (fun (w:List Nat) i=>zP R L v0 v2 (cl w) (i+16)) stB (fun _ w=>Wd 64 w) 48 (fun w=>zS R L v0 v2 (cl w) (Ad 8 0) v0.1 0)
  (fun w hw=>by
   have hq:zP R L v0 v2 (cl w) (64:Nat)=_:=round (by kernel_rfl) (kX R L v0 v2 (cl w) (64:Nat))
   show zP R L v0 v2 (cl w) (64:Nat)=_
   rw[hq,show decide (((64:Nat):Int) < 64)=false from by decide];rfl)
  (fun w i hi hw=>by
   have hq:zP R L v0 v2 (cl w) ((i+16:Nat):Int)=_:=round (by kernel_rfl) (kX R L v0 v2 (cl w) ((i+16:Nat):Int))
   refine⟨?_,BM7 hw⟩
   show zP R L v0 v2 (cl w) ((i:Int)+16)=zP R L v0 v2 (cl (stB i w)) (((i+1:Nat):Int)+16)
   rw[show (i:Int)+16=((i+16:Nat):Int) by omega,show ((i+1:Nat):Int)+16=((i+16+1:Nat):Int) by omega]
   have e15:Aa .i64 (((i+16:Nat):Int) - 15)=((i+1:Nat):Int):=A5S (c:=15) (by omega) (by omega)
   have e2:Aa .i64 (((i+16:Nat):Int) - 2)=((i+14:Nat):Int):=A5S (c:=2) (by omega) (by omega)
   have e16:Aa .i64 (((i+16:Nat):Int) - 16)=((i:Nat):Int):=A5S (c:=16) (by omega) (by omega)
   have e7:Aa .i64 (((i+16:Nat):Int) - 7)=((i+9:Nat):Int):=A5S (c:=7) (by omega) (by omega)
   have a1:=hw.g (i+1);have a14:=hw.g (i+14);have a0:=hw.g i;have a9:=hw.g (i+9)
   rw[hq,show decide (((i+16:Nat):Int) < 64)=true from Ar (by omega),e15,e2,e16,e7,zB (by omega)]
   simp only[nn,tn,A5,zT (show i+1 < 64 by omega),zT (show i+14 < 64 by omega),zT (show i < 64 by omega),zT (show i+9 < 64 by omega),zT (show i+16 < 64 by omega),zY]
   rw[T7 a1,T18 a1,T17 a14,T19 a14]
   simp only[A6]
   rw[g0C .u32 (by decide) (by decide) a1,g1C .u32 (by decide) (by decide) a14,A9Q,A9Q,A9Q,A95,uB]
   rfl)
  w0 h0
 rw[Int.zero_add] at h
 exact h
theorem BO4 {x:List Nat} (h:x.length=8):x=[x.getD 0 0,x.getD 1 0,x.getD 2 0,x.getD 3 0,x.getD 4 0,x.getD 5 0,x.getD 6 0,x.getD 7 0]:=by
 match x,h with
 | [a,b,c,d,e,f,g,i],_=>rfl
theorem BH8 (v0:HS) (v2 v6:List Int) (h:List Nat) (hh:Wd 8 h):
  zS R L v0 v2 v6 (Ad 8 0) (cl h) 0=yB R L v0 v2 v6 (cl h) 0:=by
 have:=(yE (fun (w:List Nat) i=>zS R L v0 v2 v6 (cl w) (cl h) i) (fun i w=>w.set i (h.getD i 0)) (fun _ w=>True) 8 (fun w=>yB R L v0 v2 v6 (cl w) 0)
  (fun w hw=>by
   have hq:zS R L v0 v2 v6 (cl w) (cl h) (8:Nat)=_:=round (by kernel_rfl) (kR R L v0 v2 v6 (cl w) (cl h) (8:Nat))
   show zS R L v0 v2 v6 (cl w) (cl h) (8:Nat)=_
   rw[hq];rfl)
  (fun w i hi hw=>by
   have hq:zS R L v0 v2 v6 (cl w) (cl h) (i:Nat)=_:=round (by kernel_rfl) (kR R L v0 v2 v6 (cl w) (cl h) (i:Nat))
   refine⟨?_,trivial⟩
   show zS R L v0 v2 v6 (cl w) (cl h) (i:Nat)=_
   rw[hq,show decide ((i:Int) < 8)=true from Ar (by omega),zB (by omega)]
   simp only[nn,tn,A5,zT (show i < 8 from hi),zY]
   rw[AL0 (k:=.u32) (hh.g i),uB])
  (Ad 8 0) trivial).1
 refine this.trans ?_
 rw[BO4 hh.1]
 rfl
theorem BD7 (h s c k w a m:Nat):(((((h+s) % 4294967296+c) % 4294967296+k) % 4294967296+w) % 4294967296+(a+m) % 4294967296) % 4294967296=(h+s+c+k+w+a+m) % 4294967296:=by
 simp only[AR,Bu,Nat.add_assoc]
theorem A8M (d h s c k w:Nat):(d+((((h+s) % 4294967296+c) % 4294967296+k) % 4294967296+w) % 4294967296) % 4294967296=(d+(h+s+c+k+w)) % 4294967296:=by
 simp only[AR,Bu]
theorem BI4 (v0:HS) (w v00:List Nat) (hw:Wd 64 w) (h0:Wd 8 v00):
  yB R L v0 (cl kT) (cl w) (cl v00) 0=yA R L v0 (cl (xO (stC kT w) 64 0 v00)) 0∧Wd 8 (xO (stC kT w) 64 0 v00):=
 yE (fun (v:List Nat) i=>yB R L v0 (cl kT) (cl w) (cl v) i) (stC kT w) (fun _ v=>Wd 8 v) 64 (fun v=>yA R L v0 (cl v) 0)
  (fun v hv=>by
   have hq:yB R L v0 (cl kT) (cl w) (cl v) (64:Nat)=_:=round (by kernel_rfl) (kU R L v0 (cl kT) (cl w) (cl v) (64:Nat))
   show yB R L v0 (cl kT) (cl w) (cl v) (64:Nat)=_
   rw[hq];rfl)
  (fun v i hi hv=>by
   have hq:yB R L v0 (cl kT) (cl w) (cl v) (i:Nat)=_:=round (by kernel_rfl) (kU R L v0 (cl kT) (cl w) (cl v) (i:Nat))
   refine⟨?_,BH1 hv⟩
   show yB R L v0 (cl kT) (cl w) (cl v) (i:Nat)=_
   have a0:=hv.g 0;have a1:=hv.g 1;have a2:=hv.g 2;have a3:=hv.g 3;have a4:=hv.g 4;have a5:=hv.g 5;have a6:=hv.g 6;have a7:=hv.g 7
   rw[hq,show decide ((i:Int) < 64)=true from Ar (by omega),zB (by omega),show ((2:Int) ^ Ac .u32 - 1)=4294967295 from by decide]
   simp only[nn,tn,A5,zT (show i < 64 by omega),zY,show An 0=0 from rfl,show An 1=1 from rfl,show An 2=2 from rfl,show An 3=3 from rfl,show An 4=4 from rfl,show An 5=5 from rfl,show An 6=6 from rfl,show An 7=7 from rfl]
   rw[T6 a4,T11 a4,T25 a4,T2 a0,T13 a0,T22 a0]
   simp only[A6]
   rw[S1C .u32 (by decide) a4,S0C .u32 (by decide) a0,chC .u32 (by decide) a4 a5 a6,mjC .u32 (by decide) a0 a1 a2]
   simp only[A9Q]
   rw[BD7,A8M]
   rfl)
  v00 h0
theorem BH5 (rest:List UInt8 × (Int × Unit)) (v h0:List Nat) (hv:Wd 8 v) (hh:Wd 8 h0):
  yA R L (cl h0,rest) (cl v) 0=some ((cl (xO (stD v) 8 0 h0),rest),())∧Wd 8 (xO (stD v) 8 0 h0):=
 yE (fun (h:List Nat) i=>yA R L (cl h,rest) (cl v) i) (stD v) (fun _ h=>Wd 8 h) 8 (fun h=>some ((cl h,rest),()))
  (fun h _=>by
   have hq:yA R L (cl h,rest) (cl v) (8:Nat)=_:=round (by kernel_rfl) (kZ R L (cl h,rest) (cl v) (8:Nat))
   show yA R L (cl h,rest) (cl v) (8:Nat)=_
   rw[hq];rfl)
  (fun h i hi hh=>by
   have hq:yA R L (cl h,rest) (cl v) (i:Nat)=_:=round (by kernel_rfl) (kZ R L (cl h,rest) (cl v) (i:Nat))
   refine⟨?_,BB5 hh⟩
   show yA R L (cl h,rest) (cl v) (i:Nat)=_
   have a:=hh.g i;have b:=hv.g i
   rw[hq,show decide ((i:Int) < 8)=true from Ar (by omega),zB (by omega)]
   simp only[nn,tn,A5,zT (show i < 8 from hi),zY]
   rw[AL0 (k:=.u32) a,A9Q,tV (by omega),uB]
   rfl)
  h0 hh
theorem fQ (t:List UInt8) {i n:Nat} (h:i < n):(t.take n).getD i 0=t.getD i 0:=by
 rw[Al,Al,AA,Bw h]
theorem Ad3 {α:Type} {f g:Nat→α→α}:∀ (n i:Nat) (a:α),(∀ j b,i≤j→j < i+n→f j b=g j b)→xO f n i a=xO g n i a
 | 0,_,_,_=>rfl
 | n+1,i,a,h=>by
  show xO f n (i+1) (f i a)=xO g n (i+1) (g i a)
  rw[h i a (AT _) (by omega),Ad3 n (i+1) _ (fun j b h1 h2=>h j b (by omega) (by omega))]
theorem A6I (k h:List Nat) (t:List UInt8):A6n k h (t.take 64)=A6n k h t:=by
 have e:xO (stA (t.take 64)) 16 0 (Ad 64 0)=xO (stA t) 16 0 (Ad 64 0):=Ad3 16 0 _ fun j b h1 h2=>by
  unfold stA wBE bt
  rw[fQ t (by omega),fQ t (by omega),fQ t (by omega),fQ t (by omega)]
 unfold A6n BR6
 rw[e]
theorem BA6 (h:List Nat) (rest:List UInt8 × (Int × Unit)) (t:List UInt8) (hh:Wd 8 h) (ht:64≤t.length):
  qP R (cl h,rest) t (cl kT)=some ((cl (A6n kT h t),rest),()):=by
 have hq:qP R (cl h,rest) t (cl kT)=_:=call (AJ7 R L (cl h,rest) t (cl kT))
 obtain⟨a1,a2⟩:=BJ6 (cl h,rest) t ht (cl kT)
 obtain⟨b1,b2⟩:=BH2 (cl h,rest) (cl kT) _ a2
 obtain⟨c1,c2⟩:=BI4 (cl h,rest) _ h b2 hh
 obtain⟨d1,d2⟩:=BH5 rest _ h c2 hh
 exact hq.trans (a1.trans (b1.trans ((BH8 _ _ _ h hh).trans (c1.trans d1))))
end Go.Rf.S

end
