/- What the program computes, in plain words: part 4. No condition. -/
import Derived.Test.YtcikhcfofnlegaaGreatRgC
import Derived.Below
import Derived.Shelf.Strings.Repeat
import Derived.WalkKit
import Derived.BigCall
import Derived.Test.YtcikhcfofnlegaaGreatProg
import Derived.Shelf.LaysM
import Derived.Shelf.Lays
import Derived.Maps.Own
import Derived.Maps.Views
import Derived.Shelf.SlLaysE0
import Derived.Shelf.Spec.SlicesInsertGrow
import Derived.Shelf.RegionOpenPlain
import Derived.Deep.RegionLaw
import Derived.Lib.Walk
import Derived.Lib.SliceRun
import Derived.Shelf.Spec.SlicesGrow
import Derived.Shelf.Slices.Reverse
import Derived.Deep.Upon
import Derived.Lib.JoinLaws
import Derived.Lib.Builder
set_option linter.unusedVariables false
set_option linter.unusedSimpArgs false
section
namespace Go.Rf
set_option linter.unusedSectionVars false
variable [T:Laid]
theorem AY8 (n a:Nat):BitVec.ofInt n (a:Int) = BitVec.ofNat n a:=by
 apply BitVec.eq_of_toNat_eq
 simp
theorem BN9 (n:Int):IntKind.wrap .u32 n = n % 4294967296:=by
 unfold IntKind.wrap
 simp [IntKind.signed,IntKind.bits]
theorem BV7 (n:Int):IntKind.wrap .u8 n = n % 256:=by
 unfold IntKind.wrap
 simp [IntKind.signed,IntKind.bits]
theorem A0J (n:Int):IntKind.wrap .u64 n = n % 18446744073709551616:=by
 unfold IntKind.wrap
 simp [IntKind.signed,IntKind.bits]
theorem Ap3 (n:Nat):IntKind.wrap .u32 (n:Int) = ((n % 4294967296:Nat):Int):=by rw [BN9];omega
theorem sJ (n:Nat):IntKind.wrap .u8 (n:Int) = ((n % 256:Nat):Int):=by rw [BV7];omega
theorem sO {n:Nat} (h:n < 9223372036854775808):IntKind.wrap .i64 (n:Int) = (n:Int):=zH (by omega) (by omega)
def sF:IntKind → Nat
 | .i8=>128 | .i16=>32768 | .i32=>2147483648 | .i64=>9223372036854775808
 | .u8=>256 | .u16=>65536 | .u32=>4294967296 | .u64=>18446744073709551616
theorem A31 (k:IntKind):sF k ≤ 2 ^ k.bits:=by cases k <;> decide
theorem AW0 {k:IntKind} {n:Nat} (h:n < sF k):IntKind.wrap k (n:Int) = (n:Int):=by
 cases k <;> simp only [sF] at h <;> (unfold IntKind.wrap;simp [IntKind.signed,IntKind.bits]) <;> omega
theorem BR1 (k:IntKind):∃ e,sF k = 2 ^ e:=by
 cases k
 ·exact ⟨7,rfl⟩
 ·exact ⟨15,rfl⟩
 ·exact ⟨31,rfl⟩
 ·exact ⟨63,rfl⟩
 ·exact ⟨8,rfl⟩
 ·exact ⟨16,rfl⟩
 ·exact ⟨32,rfl⟩
 ·exact ⟨64,rfl⟩
theorem AP8 {k:IntKind} {a b:Nat} (ha:a < sF k) (hb:b < sF k):xH .and k (a:Int) (b:Int) = ((a &&& b:Nat):Int):=by
 have h:=A31 k
 unfold xH
 simp only [AY8,BitVec.toNat_and,BitVec.toNat_ofNat]
 rw [Nat.mod_eq_of_lt (by omega),Nat.mod_eq_of_lt (by omega),AW0 (Nat.lt_of_le_of_lt Nat.and_le_left ha)]
theorem Ag7 {k:IntKind} {a b:Nat} (ha:a < sF k) (hb:b < sF k):xH .or k (a:Int) (b:Int) = ((a ||| b:Nat):Int):=by
 have h:=A31 k
 obtain ⟨e,he⟩:=BR1 k
 unfold xH
 simp only [AY8,BitVec.toNat_or,BitVec.toNat_ofNat]
 rw [Nat.mod_eq_of_lt (by omega),Nat.mod_eq_of_lt (by omega),AW0 (by rw [he] at ha hb ⊢;exact Nat.or_lt_two_pow ha hb)]
theorem A1F {k:IntKind} {a b:Nat} (ha:a < sF k) (hb:b < sF k):xH .xor k (a:Int) (b:Int) = ((a ^^^ b:Nat):Int):=by
 have h:=A31 k
 obtain ⟨e,he⟩:=BR1 k
 unfold xH
 simp only [AY8,BitVec.toNat_xor,BitVec.toNat_ofNat]
 rw [Nat.mod_eq_of_lt (by omega),Nat.mod_eq_of_lt (by omega),AW0 (by rw [he] at ha hb ⊢;exact Nat.xor_lt_two_pow ha hb)]
theorem jQ (a n:Nat):Int.fdiv (a:Int) (2 ^ n:Int) = ((a / 2 ^ n:Nat):Int):=by
 have:(2 ^ n:Int) = ((2 ^ n:Nat):Int):=by simp
 rw [this];exact (Int.ofNat_fdiv a (2 ^ n)).symm
theorem A7V (a n:Nat):(a:Int) * (2 ^ n:Int) = ((a * 2 ^ n:Nat):Int):=by simp
theorem BZ5 (a:Nat):a &&& 4294967295 = a % 4294967296:=Nat.and_two_pow_sub_one_eq_mod a 32
theorem A9D (a:Nat):a &&& 67108863 = a % 67108864:=Nat.and_two_pow_sub_one_eq_mod a 26
end Go.Rf

end
section
namespace Go.Rf
set_option linter.unusedSectionVars false
variable [T:Laid]
def wJ {α:Type} (f:Nat → α → α):(n i:Nat) → α → α
 | 0,_,a=>a
 | n + 1,i,a=>wJ f n (i + 1) (f i a)
theorem A83 {α γ:Type} (F:α → Int → Option γ) (f:Nat → α → α) (Inv:Nat → α → Prop) (n:Nat) (K:α → Option γ)
  (stop:∀ a,Inv n a → F a (n:Nat) = K a) (step:∀ a i,i < n → Inv i a → F a (i:Nat) = F (f i a) ((i + 1:Nat):Int) ∧ Inv (i + 1) (f i a)):
  ∀ (m i:Nat) (a:α),n - i = m → i ≤ n → Inv i a → F a i = K (wJ f m i a) ∧ Inv n (wJ f m i a)
 | 0,i,a,hm,hi,ha=>by
  have:i = n:=by omega
  subst this
  exact ⟨stop a ha,ha⟩
 | m + 1,i,a,hm,hi,ha=>by
  obtain ⟨h1,h2⟩:=step a i (by omega) ha
  obtain ⟨h3,h4⟩:=A83 F f Inv n K stop step m (i + 1) (f i a) (by omega) (by omega) h2
  exact ⟨h1.trans h3,h4⟩
theorem yJ {α γ:Type} (F:α → Int → Option γ) (f:Nat → α → α) (Inv:Nat → α → Prop) (n:Nat) (K:α → Option γ)
  (stop:∀ a,Inv n a → F a (n:Nat) = K a) (step:∀ a i,i < n → Inv i a → F a (i:Nat) = F (f i a) ((i + 1:Nat):Int) ∧ Inv (i + 1) (f i a)) (a:α) (ha:Inv 0 a):
  F a 0 = K (wJ f n 0 a) ∧ Inv n (wJ f n 0 a):=A83 F f Inv n K stop step n 0 a rfl (Nat.zero_le _) ha
def cl (l:List Nat):List Int:=List.map (fun (x:Nat)=>(x:Int)) l
theorem gM (l:List Nat):(cl l).length = l.length:=by unfold cl;exact List.length_map _
theorem yG (l:List Nat) (i:Nat):(cl l).getD i (0:Int) = ((l.getD i 0:Nat):Int):=by
 unfold cl
 rw [List.getD_eq_getElem?_getD,List.getD_eq_getElem?_getD,List.getElem?_map]
 cases l[i]? <;> rfl
theorem tI (l:List Nat) (i a:Nat):(cl l).set i (a:Int) = cl (l.set i a):=by
 unfold cl
 rw [List.map_set]
def Bd (B:Nat) (l:List Nat):Prop:=∀ x ∈ l,x < B
theorem Bd.get {B:Nat} {l:List Nat} (h:Bd B l) (hB:0 < B) (i:Nat):l.getD i 0 < B:=by
 rw [List.getD_eq_getElem?_getD]
 cases e:l[i]? with
 | none=>exact hB
 | some x=>exact h x (List.mem_of_getElem? e)
theorem Bd.set {B:Nat} {l:List Nat} (h:Bd B l) {i a:Nat} (ha:a < B):Bd B (l.set i a):=fun x hx=>by
 rcases List.mem_or_eq_of_mem_set hx with hx | rfl
 ·exact h x hx
 ·exact ha
theorem Bd.rep {B n:Nat} (hB:0 < B):Bd B (List.replicate n 0):=fun x hx=>by
 rw [(List.mem_replicate.1 hx).2];exact hB
end Go.Rf

end
section
namespace Go.Rf
set_option linter.unusedSectionVars false
variable [T:Laid]
def PP:Nat:=1361129467683753853853498429727072845819
def val (a b c d e:Nat):Nat:=a + 67108864 * b + 4503599627370496 * c + 302231454903657293676544 * d + 20282409603651670423947251286016 * e
def car (a b c d e : Nat) : List Nat :=
  [a % 67108864 + 5 * ((e + (d + (c + (b + a / 67108864) / 67108864) / 67108864) / 67108864) / 67108864),
   (b + a / 67108864) % 67108864,
   (c + (b + a / 67108864) / 67108864) % 67108864,
   (d + (c + (b + a / 67108864) / 67108864) / 67108864) % 67108864,
   (e + (d + (c + (b + a / 67108864) / 67108864) / 67108864) / 67108864) % 67108864]
theorem A48 (a b c d e:Nat):∃ a' b' c' d' e' q,car a b c d e = [a',b',c',d',e'] ∧ val a' b' c' d' e' + q * PP = val a b c d e ∧
  b' < 67108864 ∧ c' < 67108864 ∧ d' < 67108864 ∧ e' < 67108864 ∧
  q = (e + (d + (c + (b + a / 67108864) / 67108864) / 67108864) / 67108864) / 67108864 ∧ a' = a % 67108864 + 5 * q:=by
 refine ⟨_,_,_,_,_,(e + (d + (c + (b + a / 67108864) / 67108864) / 67108864) / 67108864) / 67108864,rfl,?_,?_,?_,?_,?_,rfl,rfl⟩
 ·unfold val PP
  generalize h1:b + a / 67108864 = b1
  generalize h2:c + b1 / 67108864 = c1
  generalize h3:d + c1 / 67108864 = d1
  generalize h4:e + d1 / 67108864 = e1
  omega
 all_goals exact Nat.mod_lt _ (by decide)
theorem Bv2 (a b c d e:Nat) (ha:a < 288230376151711744) (hb:b < 288230376151711744) (hc:c < 288230376151711744) (hd:d < 288230376151711744) (he:e < 288230376151711744):
  ∃ a1 b1 c1 d1 e1 a2 b2 c2 d2 e2 a3 b3 c3 d3 e3,car a b c d e = [a1,b1,c1,d1,e1] ∧ car a1 b1 c1 d1 e1 = [a2,b2,c2,d2,e2] ∧ car a2 b2 c2 d2 e2 = [a3,b3,c3,d3,e3] ∧
   val a3 b3 c3 d3 e3 % PP = val a b c d e % PP ∧ a3 < 67108864 ∧ b3 < 67108864 ∧ c3 < 67108864 ∧ d3 < 67108864 ∧ e3 < 67108864 ∧
   a1 < 1152921504606846976 ∧ b1 < 67108864 ∧ c1 < 67108864 ∧ d1 < 67108864 ∧ e1 < 67108864 ∧ a2 < 1152921504606846976 ∧ b2 < 67108864 ∧ c2 < 67108864 ∧ d2 < 67108864 ∧ e2 < 67108864:=by
 obtain ⟨a1,b1,c1,d1,e1,q1,h1,v1,hb1,hc1,hd1,he1,hq1,ha1⟩:=A48 a b c d e
 obtain ⟨a2,b2,c2,d2,e2,q2,h2,v2,hb2,hc2,hd2,he2,hq2,ha2⟩:=A48 a1 b1 c1 d1 e1
 obtain ⟨a3,b3,c3,d3,e3,q3,h3,v3,hb3,hc3,hd3,he3,hq3,ha3⟩:=A48 a2 b2 c2 d2 e2
 have hq1':q1 < 8589934592:=by rw [hq1];omega
 have ha1':a1 < 67108864 + 5 * 8589934592:=by omega
 have hq2':q2 ≤ 1:=by rw [hq2];omega
 have ha2':a2 < 67108864 + 5:=by omega
 have ha3':a3 < 67108864:=by
  rcases Nat.lt_or_ge a2 67108864 with h | h
  ·have:q3 = 0:=by rw [hq3];omega
   omega
  ·have:q3 ≤ 1:=by rw [hq3];omega
   omega
 refine ⟨a1,b1,c1,d1,e1,a2,b2,c2,d2,e2,a3,b3,c3,d3,e3,h1,h2,h3,?_,ha3',hb3,hc3,hd3,he3,by omega,hb1,hc1,hd1,he1,by omega,hb2,hc2,hd2,he2⟩
 rw [← v1,← v2,← v3]
 simp [Nat.add_mul_mod_self_right]
theorem Bg3 {a b c d e:Nat} (ha:a < 67108864) (hb:b < 67108864) (hc:c < 67108864) (hd:d < 67108864) (he:e < 67108864):car a b c d e = [a,b,c,d,e]:=by
 unfold car
 rw [show a / 67108864 = 0 by omega,Nat.add_zero,show b / 67108864 = 0 by omega,Nat.add_zero,show c / 67108864 = 0 by omega,Nat.add_zero,show d / 67108864 = 0 by omega,Nat.add_zero,show e / 67108864 = 0 by omega,
  Nat.mod_eq_of_lt ha,Nat.mod_eq_of_lt hb,Nat.mod_eq_of_lt hc,Nat.mod_eq_of_lt hd,Nat.mod_eq_of_lt he,Nat.mul_zero,Nat.add_zero]
theorem sc (α β x y:Nat):(α * x) * (β * y) = (α * β) * (x * y):=Nat.mul_mul_mul_comm α x β y
theorem Bc8 (x0 x1 x2 x3 x4 y0 y1 y2 y3 y4:Nat):∃ q,val x0 x1 x2 x3 x4 * val y0 y1 y2 y3 y4 =
  val (x0 * y0 + 5 * (x1 * y4) + 5 * (x2 * y3) + 5 * (x3 * y2) + 5 * (x4 * y1)) (x0 * y1 + x1 * y0 + 5 * (x2 * y4) + 5 * (x3 * y3) + 5 * (x4 * y2))
   (x0 * y2 + x1 * y1 + x2 * y0 + 5 * (x3 * y4) + 5 * (x4 * y3)) (x0 * y3 + x1 * y2 + x2 * y1 + x3 * y0 + 5 * (x4 * y4)) (x0 * y4 + x1 * y3 + x2 * y2 + x3 * y1 + x4 * y0) + q * PP:=by
 refine ⟨(x1 * y4 + x2 * y3 + x3 * y2 + x4 * y1) + 67108864 * (x2 * y4 + x3 * y3 + x4 * y2) + 4503599627370496 * (x3 * y4 + x4 * y3) + 302231454903657293676544 * (x4 * y4),?_⟩
 unfold val PP
 have e:(x0 + 67108864 * x1 + 4503599627370496 * x2 + 302231454903657293676544 * x3 + 20282409603651670423947251286016 * x4) * (y0 + 67108864 * y1 + 4503599627370496 * y2 + 302231454903657293676544 * y3 + 20282409603651670423947251286016 * y4) =
   (x0 * y0) + 67108864 * (x0 * y1) + 4503599627370496 * (x0 * y2) + 302231454903657293676544 * (x0 * y3) + 20282409603651670423947251286016 * (x0 * y4)
   + (67108864 * (x1 * y0) + (67108864 * 67108864) * (x1 * y1) + (67108864 * 4503599627370496) * (x1 * y2) + (67108864 * 302231454903657293676544) * (x1 * y3) + (67108864 * 20282409603651670423947251286016) * (x1 * y4))
   + (4503599627370496 * (x2 * y0) + (4503599627370496 * 67108864) * (x2 * y1) + (4503599627370496 * 4503599627370496) * (x2 * y2) + (4503599627370496 * 302231454903657293676544) * (x2 * y3) + (4503599627370496 * 20282409603651670423947251286016) * (x2 * y4))
   + (302231454903657293676544 * (x3 * y0) + (302231454903657293676544 * 67108864) * (x3 * y1) + (302231454903657293676544 * 4503599627370496) * (x3 * y2) + (302231454903657293676544 * 302231454903657293676544) * (x3 * y3) + (302231454903657293676544 * 20282409603651670423947251286016) * (x3 * y4))
   + (20282409603651670423947251286016 * (x4 * y0) + (20282409603651670423947251286016 * 67108864) * (x4 * y1) + (20282409603651670423947251286016 * 4503599627370496) * (x4 * y2) + (20282409603651670423947251286016 * 302231454903657293676544) * (x4 * y3) + (20282409603651670423947251286016 * 20282409603651670423947251286016) * (x4 * y4)):=by
  rw [Nat.add_mul,Nat.add_mul,Nat.add_mul,Nat.add_mul]
  congr 1
  ·congr 1
   ·congr 1
    ·congr 1
     ·rw [Nat.mul_add,Nat.mul_add,Nat.mul_add,Nat.mul_add,Nat.mul_left_comm x0,Nat.mul_left_comm x0,Nat.mul_left_comm x0,Nat.mul_left_comm x0]
     ·rw [Nat.mul_add,Nat.mul_add,Nat.mul_add,Nat.mul_add,sc _ _ x1 y1,sc _ _ x1 y2,sc _ _ x1 y3,sc _ _ x1 y4,Nat.mul_assoc _ x1 y0]
    ·rw [Nat.mul_add,Nat.mul_add,Nat.mul_add,Nat.mul_add,sc _ _ x2 y1,sc _ _ x2 y2,sc _ _ x2 y3,sc _ _ x2 y4,Nat.mul_assoc _ x2 y0]
   ·rw [Nat.mul_add,Nat.mul_add,Nat.mul_add,Nat.mul_add,sc _ _ x3 y1,sc _ _ x3 y2,sc _ _ x3 y3,sc _ _ x3 y4,Nat.mul_assoc _ x3 y0]
  ·rw [Nat.mul_add,Nat.mul_add,Nat.mul_add,Nat.mul_add,sc _ _ x4 y1,sc _ _ x4 y2,sc _ _ x4 y3,sc _ _ x4 y4,Nat.mul_assoc _ x4 y0]
 rw [e]
 generalize x0 * y0 = p00;generalize x0 * y1 = p01;generalize x0 * y2 = p02;generalize x0 * y3 = p03;generalize x0 * y4 = p04
 generalize x1 * y0 = p10;generalize x1 * y1 = p11;generalize x1 * y2 = p12;generalize x1 * y3 = p13;generalize x1 * y4 = p14
 generalize x2 * y0 = p20;generalize x2 * y1 = p21;generalize x2 * y2 = p22;generalize x2 * y3 = p23;generalize x2 * y4 = p24
 generalize x3 * y0 = p30;generalize x3 * y1 = p31;generalize x3 * y2 = p32;generalize x3 * y3 = p33;generalize x3 * y4 = p34
 generalize x4 * y0 = p40;generalize x4 * y1 = p41;generalize x4 * y2 = p42;generalize x4 * y3 = p43;generalize x4 * y4 = p44
 clear e
 omega
def leV:List UInt8 → Nat
 | []=>0
 | c :: cs=>c.toNat + 256 * leV cs
theorem A51:∀ (l:List UInt8),leV l < 256 ^ l.length
 | []=>by simp [leV]
 | c :: cs=>by
  have:=A51 cs
  have hc:=c.toNat_lt
  simp only [leV,List.length_cons,Nat.pow_succ]
  omega
theorem AL8:∀ (a b:List UInt8),leV (a ++ b) = leV a + 256 ^ a.length * leV b
 | [],b=>by simp [leV]
 | c :: cs,b=>by
  simp only [List.cons_append,leV,AL8 cs b,List.length_cons,Nat.pow_succ,Nat.mul_add]
  rw [show 256 ^ cs.length * 256 * leV b = 256 * (256 ^ cs.length * leV b) by rw [Nat.mul_comm (256 ^ cs.length) 256,Nat.mul_assoc]]
  omega
theorem A3J:∀ (n:Nat),leV (List.replicate n 0) = 0
 | 0=>rfl
 | n + 1=>by simp [List.replicate_succ,leV,A3J n]
def L5 (n:Nat):List Nat:=[n % 67108864,n / 67108864 % 67108864,n / 4503599627370496 % 67108864,n / 302231454903657293676544 % 67108864,n / 20282409603651670423947251286016 % 67108864]
theorem BT1 {n:Nat} (h:n < 1361129467683753853853498429727072845824):val (n % 67108864) (n / 67108864 % 67108864) (n / 4503599627370496 % 67108864) (n / 302231454903657293676544 % 67108864) (n / 20282409603651670423947251286016 % 67108864) = n:=by
 unfold val;omega
theorem BI5 {a b c d e:Nat} (ha:a < 67108864) (hb:b < 67108864) (hc:c < 67108864) (hd:d < 67108864) (he:e < 67108864):L5 (val a b c d e) = [a,b,c,d,e]:=by
 unfold L5 val
 congr 1
 ·omega
 ·congr 1
  ·omega
  ·congr 1
   ·omega
   ·congr 1
    ·omega
    ·congr 1;omega
theorem Bh6 {a b c d e:Nat} (ha:a < 67108864) (hb:b < 67108864) (hc:c < 67108864) (hd:d < 67108864) (he:e < 67108864):val a b c d e < 1361129467683753853853498429727072845824:=by
 unfold val;omega
theorem Bf6 {x y:Nat} (hx:x < 1361129467683753853853498429727072845824) (hy:y < 1361129467683753853853498429727072845824) (h:x % PP = y % PP):(if PP ≤ x then x - PP else x) = (if PP ≤ y then y - PP else y):=by
 have e:∀ z,z < 1361129467683753853853498429727072845824 → (if PP ≤ z then z - PP else z) = z % PP:=fun z hz=>by
  unfold PP at *
  split <;> omega
 rw [e x hx,e y hy,h]
end Go.Rf

end
section
namespace Go.Rf
set_option linter.unusedSectionVars false
variable [T:Laid]
theorem BQ4 (a b:Nat):(a ||| b) % 4294967296 = (a % 4294967296) ||| (b % 4294967296):=Nat.or_mod_two_pow (n:=32)
theorem iC {a b:Nat} (ha:a < 4294967296) (hb:b < 4294967296):a ||| b < 4294967296:=Nat.or_lt_two_pow (n:=32) ha hb
theorem xG {a b:Nat} (ha:a < 4294967296) (hb:b < 4294967296):a ^^^ b < 4294967296:=Nat.xor_lt_two_pow (n:=32) ha hb
theorem lQ {a b:Nat} (ha:a < 4294967296):a &&& b < 4294967296:=Nat.lt_of_le_of_lt Nat.and_le_left ha
theorem wU (a:Nat):a % 4294967296 < 4294967296:=Nat.mod_lt _ (by decide)
theorem mI {a:Nat} (n:Nat) (ha:a < 4294967296):a / n < 4294967296:=Nat.lt_of_le_of_lt (Nat.div_le_self _ _) ha
def rl (s x:Nat):Nat:=(x * 2 ^ s % 4294967296) ||| (x / 2 ^ (32 - s))
theorem As7 {s x:Nat} (hx:x < 4294967296):rl s x < 4294967296:=iC (wU _) (mI _ hx)
def rr (n x:Nat):Nat:=rl (32 - n) x
theorem jS {s x:Nat} (hx:x < 4294967296):rr s x < 4294967296:=As7 hx
theorem Bc6 {n x:Nat} (hn:n ≤ 32) (hx:x < 4294967296):(x / 2 ^ n ||| x * 2 ^ (32 - n)) % 4294967296 = rr n x:=by
 rw [BQ4,Nat.mod_eq_of_lt (mI _ hx),Nat.or_comm]
 unfold rr rl
 rw [show 32 - (32 - n) = n by omega]
theorem BW9 {n x:Nat} (hx:x < 4294967296):(x * 2 ^ n ||| x / 2 ^ (32 - n)) % 4294967296 = rl n x:=by
 rw [BQ4,Nat.mod_eq_of_lt (mI _ hx)];rfl
def g0 (x:Nat):Nat:=rr 7 x ^^^ rr 18 x ^^^ x / 2 ^ 3
def g1 (x:Nat):Nat:=rr 17 x ^^^ rr 19 x ^^^ x / 2 ^ 10
def S1 (e:Nat):Nat:=rr 6 e ^^^ rr 11 e ^^^ rr 25 e
def S0 (a:Nat):Nat:=rr 2 a ^^^ rr 13 a ^^^ rr 22 a
def ch (e f g:Nat):Nat:=(e &&& f) ^^^ ((4294967295 ^^^ e) &&& g)
def mj (a b c:Nat):Nat:=(a &&& b) ^^^ (a &&& c) ^^^ (b &&& c)
theorem Bq9 {x:Nat} (h:x < 4294967296):g0 x < 4294967296:=xG (xG (jS h) (jS h)) (mI _ h)
theorem Bp2 {x:Nat} (h:x < 4294967296):g1 x < 4294967296:=xG (xG (jS h) (jS h)) (mI _ h)
theorem Bo2 {x:Nat} (h:x < 4294967296):S1 x < 4294967296:=xG (xG (jS h) (jS h)) (jS h)
theorem Bq4 {x:Nat} (h:x < 4294967296):S0 x < 4294967296:=xG (xG (jS h) (jS h)) (jS h)
theorem Bp5 {e f g:Nat} (he:e < 4294967296):ch e f g < 4294967296:=xG (lQ he) (lQ (xG (by decide) he))
theorem Br2 {a b c:Nat} (ha:a < 4294967296) (hb:b < 4294967296):mj a b c < 4294967296:=xG (xG (lQ ha) (lQ ha)) (lQ hb)
def bt (t:List UInt8) (i:Nat):Nat:=(t.getD i 0).toNat
theorem rT (t:List UInt8) (i:Nat):bt t i < 256:=UInt8.toNat_lt _
def wBE (t:List UInt8) (i:Nat):Nat:=bt t i * 2 ^ 24 ||| bt t (i + 1) * 2 ^ 16 ||| bt t (i + 2) * 2 ^ 8 ||| bt t (i + 3)
def wLE (t:List UInt8) (i:Nat):Nat:=bt t i ||| bt t (i + 1) * 2 ^ 8 ||| bt t (i + 2) * 2 ^ 16 ||| bt t (i + 3) * 2 ^ 24
theorem Bl1 (t:List UInt8) (i:Nat):wBE t i < 4294967296:=by
 have h0:=rT t i;have h1:=rT t (i + 1);have h2:=rT t (i + 2);have h3:=rT t (i + 3)
 exact iC (iC (iC (by omega) (by omega)) (by omega)) (by omega)
theorem BT7 (t:List UInt8) (i:Nat):wLE t i < 4294967296:=by
 have h0:=rT t i;have h1:=rT t (i + 1);have h2:=rT t (i + 2);have h3:=rT t (i + 3)
 exact iC (iC (iC (by omega) (by omega)) (by omega)) (by omega)
def stA (t:List UInt8) (i:Nat) (w:List Nat):List Nat:=w.set i (wBE t (4 * i))
def stB (i:Nat) (w:List Nat):List Nat:=w.set (i + 16) ((w.getD i 0 + g0 (w.getD (i + 1) 0) + w.getD (i + 9) 0 + g1 (w.getD (i + 14) 0)) % 4294967296)
def stC (k w:List Nat) (i:Nat) (v:List Nat):List Nat:=
 let x:=v.getD 7 0 + S1 (v.getD 4 0) + ch (v.getD 4 0) (v.getD 5 0) (v.getD 6 0) + k.getD i 0 + w.getD i 0
 [(x + S0 (v.getD 0 0) + mj (v.getD 0 0) (v.getD 1 0) (v.getD 2 0)) % 4294967296,v.getD 0 0,v.getD 1 0,v.getD 2 0,(v.getD 3 0 + x) % 4294967296,v.getD 4 0,v.getD 5 0,v.getD 6 0]
def stD (v:List Nat) (i:Nat) (h:List Nat):List Nat:=h.set i ((h.getD i 0 + v.getD i 0) % 4294967296)
def Bs9 (t:List UInt8):List Nat:=wJ stB 48 0 (wJ (stA t) 16 0 (List.replicate 64 0))
def A8Y (k h:List Nat) (t:List UInt8):List Nat:=wJ (stD (wJ (stC k (Bs9 t)) 64 0 h)) 8 0 h
def A9J (k:List Nat):Nat → List Nat → List UInt8 → List Nat × List UInt8
 | 0,h,t=>(h,t)
 | n + 1,h,t=>if 64 ≤ t.length then A9J k n (A8Y k h t) (t.drop 64) else (h,t)
def qr (a b c d:Nat):Nat × Nat × Nat × Nat:=
 let a1:=(a + b) % 4294967296
 let d1:=rl 16 (d ^^^ a1)
 let c1:=(c + d1) % 4294967296
 let b1:=rl 12 (b ^^^ c1)
 let a2:=(a1 + b1) % 4294967296
 let d2:=rl 8 (d1 ^^^ a2)
 let c2:=(c1 + d2) % 4294967296
 let b2:=rl 7 (b1 ^^^ c2)
 (a2,b2,c2,d2)
theorem Bq1 {a b c d:Nat} (hb:b < 4294967296) (hd:d < 4294967296):(qr a b c d).1 < 4294967296 ∧ (qr a b c d).2.1 < 4294967296 ∧ (qr a b c d).2.2.1 < 4294967296 ∧ (qr a b c d).2.2.2 < 4294967296:=by
 refine ⟨wU _,As7 (xG (As7 (xG hb (wU _))) (wU _)),wU _,As7 (xG (As7 (xG hd (wU _))) (wU _))⟩
def qs (a b c d:Nat) (y:List Nat):List Nat:=
 let q:=qr (y.getD a 0) (y.getD b 0) (y.getD c 0) (y.getD d 0)
 (((y.set a q.1).set b q.2.1).set c q.2.2.1).set d q.2.2.2
def dr (y:List Nat):List Nat:=
 qs 3 4 9 14 (qs 2 7 8 13 (qs 1 6 11 12 (qs 0 5 10 15 (qs 3 7 11 15 (qs 2 6 10 14 (qs 1 5 9 13 (qs 0 4 8 12 y)))))))
theorem Bn8 {a b c d:Nat} {y:List Nat} (h:Bd 4294967296 y):Bd 4294967296 (qs a b c d y):=by
 have:=Bq1 (a:=y.getD a 0) (c:=y.getD c 0) (h.get (by decide) b) (h.get (by decide) d)
 exact (((h.set this.1).set this.2.1).set this.2.2.1).set this.2.2.2
theorem Bi1 {a b c d:Nat} {y:List Nat}:(qs a b c d y).length = y.length:=by simp [qs]
def A78:List UInt8 → List UInt8 → List UInt8
 | a :: xs,b :: ys=>(a ^^^ b) :: A78 xs ys
 | _,_=>[]
end Go.Rf

end
section
namespace Go.Rf.S
def ub (l:List Nat):List UInt8:=List.map UInt8.ofNat l
def stL (v i:Nat) (o:List Nat):List Nat:=o ++ [v / 2 ^ (8 * i) % 256]
def lit (v n:Nat):List Nat:=wJ (stL v) n 0 []
def exC:List UInt8:=[101,120,112,97,110,100,32,51,50,45,98,121,116,101,32,107]
def chI (key nonce:List UInt8) (count:Nat):List Nat:=
 [wLE exC 0,wLE exC 4,wLE exC 8,wLE exC 12,wLE key 0,wLE key 4,wLE key 8,wLE key 12,wLE key 16,wLE key 20,wLE key 24,wLE key 28,count,wLE nonce 0,wLE nonce 4,wLE nonce 8]
def rk (k:Nat) (y:List Nat):List Nat:=wJ (fun i y=>qs i (4 + (i + k) % 4) (8 + (i + 2 * k) % 4) (12 + (i + 3 * k) % 4) y) 4 0 y
def r10 (y:List Nat):List Nat:=wJ (fun _ y=>rk 1 (rk 0 y)) 10 0 y
def stF (x y:List Nat) (i:Nat) (o:List Nat):List Nat:=o ++ lit ((y.getD i 0 + x.getD i 0) % 4294967296) 4
def chO (x:List Nat):List Nat:=wJ (stF x (r10 x)) 16 0 []
def chB (key nonce:List UInt8) (count:Nat):List UInt8:=ub (chO (chI key nonce count))
def chX (key nonce:List UInt8):Nat → Nat → List UInt8 → List UInt8
 | 0,_,_=>[]
 | n + 1,count,t=>if t = [] then [] else A78 (t.take 64) (chB key nonce count) ++ chX key nonce n (count + 1) (t.drop 64)
end Go.Rf.S

end
section
namespace Go.Rf
set_option linter.unusedSectionVars false
variable [T:Laid]
theorem dT {p:Prop} [Decidable p] (h:p):decide p = true:=decide_eq_true h
theorem dF {p:Prop} [Decidable p] (h:¬ p):decide p = false:=decide_eq_false h
theorem st : (∀ i : Nat, zA (i : Int) = true) ∧ (∀ i : Int, 0 ≤ i → zA i = true) ∧ (∀ i : Nat, Int.toNat (i : Int) = i) ∧ (∀ i n : Nat, i < n → Nat.blt i n = true) ∧ (∀ i n : Nat, i ≤ n → Nat.ble i n = true)
    ∧ (∀ n : Nat, n ≤ 1099511627776 → yP n = true) ∧ (∀ n : Int, -9223372036854775808 ≤ n → n ≤ 9223372036854775807 → IntKind.wrap .i64 n = n)
    ∧ (∀ (α : Type) (a b : α), cond true a b = a) ∧ (∀ (α : Type) (a b : α), cond false a b = b) ∧ (∀ (α β : Type) (a : α) (f : α → Option β), (some a).bind f = f a)
    ∧ (∀ (α : Type) (a : α), [a].length = 1) ∧ (∀ (α : Type) (a b : List α), (a ++ b).length = a.length + b.length) ∧ (∀ a b : Int, a = b → eqI a b = true) ∧ (∀ a b : Int, a ≠ b → eqI a b = false) :=
  ⟨nn, fun i h => by simp [zA]; omega, tn, fun i n h => yB h, fun i n h => by simpa [Nat.ble_eq] using h, fun n h => vR h, fun n h1 h2 => zH h1 h2,
   fun _ _ _ => rfl, fun _ _ _ => rfl, fun _ _ _ _ => rfl, fun _ _ => rfl, fun _ _ _ => List.length_append, fun a b h => by rw [vK]; exact decide_eq_true h, fun a b h => by rw [vK]; exact decide_eq_false h⟩
theorem A8D {α β γ:Type} (F:List β → Int → Option γ) (v:List α) (d:α) (f:Nat → α → β) (K:List β → Option γ) (o0:List β)
  (stop:∀ o,o.length = o0.length + v.length → F o (v.length:Nat) = K o)
  (step:∀ o (i:Nat),i < v.length → o.length = o0.length + i → F o (i:Nat) = F (o ++ [f i (v.getD i d)]) ((i + 1:Nat):Int)):F o0 0 = K (o0 ++ v.mapIdx f):=by
 have h:∀ (n i:Nat),v.length - i = n → i ≤ v.length → F (o0 ++ (v.take i).mapIdx f) (i:Nat) = K (o0 ++ v.mapIdx f):=by
  intro n
  induction n with
  | zero=>
   intro i hn hi
   have:i = v.length:=by omega
   subst this
   rw [List.take_length,stop _ (by rw [List.length_append,List.length_mapIdx])]
  | succ n ih=>
   intro i hn hi
   rw [step _ i (by omega) (by rw [List.length_append,List.length_mapIdx,List.length_take];omega),← ih (i + 1) (by omega) (by omega)]
   have hg:v[i]? = some (v.getD i d):=by rw [List.getD_eq_getElem?_getD,List.getElem?_eq_getElem (by omega)];rfl
   rw [List.take_add_one,hg,Option.toList_some,List.mapIdx_append,List.length_take,Nat.min_eq_left (by omega),List.append_assoc]
   simp
 have:=h v.length 0 rfl (Nat.zero_le _)
 simpa using this
theorem Bk8 {α:Type} {v r:List α} {i:Nat} {a b d:α} (h:v.drop i = a :: b :: r):i + 1 < v.length ∧ v.getD i d = a ∧ v.getD (i + 1) d = b ∧ v.drop (i + 2) = r:=by
 have hl:(v.drop i).length = r.length + 2:=by rw [h];rfl
 rw [List.length_drop] at hl
 have h0:=xY (d:=d) (show i < v.length by omega)
 have h1:=xY (d:=d) (show i + 1 < v.length by omega)
 rw [h,h1] at h0
 injection h0 with e1 e2
 injection e2 with e2 e3
 exact ⟨by omega,e1.symm,e2.symm,e3.symm⟩
theorem A3V {i:Nat} (h:i < 4611686018427387904):IntKind.wrap .i64 ((i:Int) + 2) = ((i + 2:Nat):Int):=by
 rw [zH (by omega) (by omega)];omega
end Go.Rf

end
section
namespace Go.Rf
abbrev TB:Type:=Int × (Int × (Int × Unit))
abbrev TR:Type:=Int × (List Int × Unit)
abbrev TO:Type:=List Int × (List TB × (List (List TB) × Unit))
abbrev TE:Type:=List Int × (TO × Unit)
def inR (n a b:Int):Bool:=decide (a ≤ n) && decide (n ≤ b)
abbrev LO:Type:=Option (List Int)
abbrev SO1:Type:=List Int × Bool
def pN (b:Int):LO → Int × LO
 | some (x :: l)=>if inR x 0 b then (x,some l) else (0,none)
 | _=>(0,none)
def pS (b:Int):Nat → LO → List Int × LO
 | 0,o=>([],o)
 | n + 1,o=>((pN b o).1 :: (pS b n (pN b o).2).1,(pS b n (pN b o).2).2)
def pB1 (o:LO):TB × LO:=(((pN 11 o).1,((pN 7 (pN 11 o).2).1,((pN 999999 (pN 7 (pN 11 o).2).2).1,()))),(pN 999999 (pN 7 (pN 11 o).2).2).2)
def pB:Nat → LO → List TB × LO
 | 0,o=>([],o)
 | n + 1,o=>((pB1 o).1 :: (pB n (pB1 o).2).1,(pB n (pB1 o).2).2)
def pR1 (o:LO):TR × LO:=(((pN 19 o).1,((pS 999999 (pN 32 (pN 19 o).2).1.toNat (pN 32 (pN 19 o).2).2).1,())),(pS 999999 (pN 32 (pN 19 o).2).1.toNat (pN 32 (pN 19 o).2).2).2)
def pR:Nat → LO → List TR × LO
 | 0,o=>([],o)
 | n + 1,o=>((pR1 o).1 :: (pR n (pR1 o).2).1,(pR n (pR1 o).2).2)
def pE:LO → Bool
 | none=>false
 | some l=>l.all fun n=>decide (n = 0)
def sN (s:SO1):Int × SO1:=match s.1 with
 | []=>(-1,s)
 | x :: l=>(x,(l,s.2))
def sC (b:Int) (s:SO1):Int × SO1:=if inR (sN s).1 0 b then sN s else (0,([],true))
def sS:Nat → SO1 → List Int × SO1
 | 0,s=>([],s)
 | n + 1,s=>((sN s).1 :: (sS n (sN s).2).1,(sS n (sN s).2).2)
def sB1 (s:SO1):TB × SO1:=(((sN s).1,((sN (sN s).2).1,((sN (sN (sN s).2).2).1,()))),(sN (sN (sN s).2).2).2)
def sB:Nat → SO1 → List TB × SO1
 | 0,s=>([],s)
 | n + 1,s=>((sB1 s).1 :: (sB n (sB1 s).2).1,(sB n (sB1 s).2).2)
def sR1 (s:SO1):TR × SO1:=(((sN s).1,((sS (sC 32 (sN s).2).1.toNat (sC 32 (sN s).2).2).1,())),(sS (sC 32 (sN s).2).1.toNat (sC 32 (sN s).2).2).2)
def sR:Nat → SO1 → List TR × SO1
 | 0,s=>([],s)
 | n + 1,s=>((sR1 s).1 :: (sR n (sR1 s).2).1,(sR n (sR1 s).2).2)
def sE (s:SO1):Bool:=(s.1.all fun n=>decide (n = 0)) && !s.2
theorem AS0 (b:Int):∀ n,(pS b n none).2 = none
 | 0=>rfl
 | n + 1=>AS0 b n
theorem Aa5:∀ n,(pB n none).2 = none
 | 0=>rfl
 | n + 1=>Aa5 n
theorem BJ6:(pR1 none).2 = none:=AS0 _ _
theorem A1b:∀ n,(pR n none).2 = none
 | 0=>rfl
 | n + 1=>by show (pR n (pR1 none).2).2 = none;rw [BJ6];exact A1b n
theorem AZ7 {s:SO1} (h:s.2 = true):(sN s).2.2 = true:=by
 obtain ⟨l,o⟩:=s
 cases l <;> exact h
theorem A1R {b:Int} {s:SO1} (h:s.2 = true):(sC b s).2.2 = true:=by
 unfold sC;split
 ·exact AZ7 h
 ·rfl
theorem Aq4:∀ (n:Nat) {s:SO1},s.2 = true → (sS n s).2.2 = true
 | 0,_,h=>h
 | n + 1,_,h=>Aq4 n (AZ7 h)
theorem BK7 {s:SO1} (h:s.2 = true):(sB1 s).2.2 = true:=AZ7 (AZ7 (AZ7 h))
theorem Ak8:∀ (n:Nat) {s:SO1},s.2 = true → (sB n s).2.2 = true
 | 0,_,h=>h
 | n + 1,_,h=>Ak8 n (BK7 h)
theorem BG8 {s:SO1} (h:s.2 = true):(sR1 s).2.2 = true:=Aq4 _ (A1R (AZ7 h))
theorem A0e:∀ (n:Nat) {s:SO1},s.2 = true → (sR n s).2.2 = true
 | 0,_,h=>h
 | n + 1,_,h=>A0e n (BG8 h)
def Sy (o:LO) (s:SO1):Prop:=o = some s.1 ∧ s.2 = false
theorem Az7 {o:LO} {s:SO1} (h:Sy o s) (b:Int):(Sy (pN b o).2 (sN s).2 ∧ (pN b o).1 = (sN s).1 ∧ inR (sN s).1 0 b = true) ∨ ((pN b o).2 = none ∧ inR (sN s).1 0 b = false):=by
 obtain ⟨l,v⟩:=s
 obtain ⟨rfl,hv⟩:=h
 have hv:v = false:=hv
 subst hv
 cases l with
 | nil=>exact .inr ⟨rfl,rfl⟩
 | cons x l=>
  cases hx:inR x 0 b with
  | true=>
   refine .inl ?_
   have e:pN b (some (x :: l)) = (x,some l):=by show (if inR x 0 b = true then _ else _) = _;rw [if_pos hx]
   rw [show (x :: l,false).1 = x :: l from rfl,e]
   exact ⟨⟨rfl,rfl⟩,rfl,hx⟩
  | false=>
   refine .inr ⟨?_,hx⟩
   show (if inR x 0 b = true then _ else _:Int × LO).2 = none
   rw [hx];rfl
theorem A5Y {o:LO} {s:SO1} (h:Sy o s) (b:Int):(Sy (pN b o).2 (sC b s).2 ∧ (pN b o).1 = (sC b s).1 ∧ inR (sC b s).1 0 b = true) ∨ ((pN b o).2 = none ∧ (sC b s).2.2 = true):=by
 rcases Az7 h b with ⟨h1,h2,h3⟩ | ⟨h1,h2⟩
 ·refine .inl ?_
  have e:sC b s = sN s:=by unfold sC;rw [if_pos h3]
  rw [e];exact ⟨h1,h2,h3⟩
 ·refine .inr ⟨h1,?_⟩
  unfold sC;rw [h2];rfl
theorem A0L (b:Int):∀ (n:Nat) {o:LO} {s:SO1},Sy o s → (Sy (pS b n o).2 (sS n s).2 ∧ (pS b n o).1 = (sS n s).1 ∧ ((sS n s).1.all fun x=>inR x 0 b) = true) ∨ ((pS b n o).2 = none ∧ ((sS n s).1.all fun x=>inR x 0 b) = false)
 | 0,_,_,h=>.inl ⟨h,rfl,rfl⟩
 | n + 1,o,s,h=>by
  rcases Az7 h b with ⟨h1,h2,h3⟩ | ⟨h1,h2⟩
  ·rcases A0L b n h1 with ⟨k1,k2,k3⟩ | ⟨k1,k2⟩
   ·refine .inl ⟨k1,?_,?_⟩
    ·show _ :: _ = _ :: _;rw [h2,k2]
    ·show ((_ :: _:List Int).all _) = true;rw [List.all_cons,h3,k3];rfl
   ·refine .inr ⟨k1,?_⟩
    show ((_ :: _:List Int).all _) = false;rw [List.all_cons,k2,Bool.and_false]
  ·refine .inr ⟨?_,?_⟩
   ·show (pS b n (pN b o).2).2 = none;rw [h1];exact AS0 b n
   ·show ((_ :: _:List Int).all _) = false;rw [List.all_cons,h2,Bool.false_and]
def Ag9 (x:TB):Bool:=inR x.1 0 11 && (inR x.2.1 0 7 && inR x.2.2.1 0 999999)
theorem BW7 {o:LO} {s:SO1} (h:Sy o s):(Sy (pB1 o).2 (sB1 s).2 ∧ (pB1 o).1 = (sB1 s).1 ∧ Ag9 (sB1 s).1 = true) ∨ ((pB1 o).2 = none ∧ Ag9 (sB1 s).1 = false):=by
 unfold Ag9
 rcases Az7 h 11 with ⟨h1,h2,h3⟩ | ⟨h1,h2⟩
 ·rcases Az7 h1 7 with ⟨k1,k2,k3⟩ | ⟨k1,k2⟩
  ·rcases Az7 k1 999999 with ⟨m1,m2,m3⟩ | ⟨m1,m2⟩
   ·refine .inl ⟨m1,?_,?_⟩
    ·show (_,(_,(_,()))) = (_,(_,(_,())));rw [h2,k2,m2]
    ·show (inR (sN s).1 0 11 && (inR (sN (sN s).2).1 0 7 && inR (sN (sN (sN s).2).2).1 0 999999)) = true
     rw [h3,k3,m3];rfl
   ·refine .inr ⟨m1,?_⟩
    show (inR (sN s).1 0 11 && (inR (sN (sN s).2).1 0 7 && inR (sN (sN (sN s).2).2).1 0 999999)) = false
    rw [m2,Bool.and_false,Bool.and_false]
  ·refine .inr ⟨?_,?_⟩
   ·show (pN 999999 (pN 7 (pN 11 o).2).2).2 = none;rw [k1];rfl
   ·show (inR (sN s).1 0 11 && (inR (sN (sN s).2).1 0 7 && inR (sN (sN (sN s).2).2).1 0 999999)) = false
    rw [k2,Bool.false_and,Bool.and_false]
 ·refine .inr ⟨?_,?_⟩
  ·show (pN 999999 (pN 7 (pN 11 o).2).2).2 = none;rw [h1];rfl
  ·show (inR (sN s).1 0 11 && (inR (sN (sN s).2).1 0 7 && inR (sN (sN (sN s).2).2).1 0 999999)) = false
   rw [h2,Bool.false_and]
theorem BD5:∀ (n:Nat) {o:LO} {s:SO1},Sy o s → (Sy (pB n o).2 (sB n s).2 ∧ (pB n o).1 = (sB n s).1 ∧ (sB n s).1.all Ag9 = true) ∨ ((pB n o).2 = none ∧ (sB n s).1.all Ag9 = false)
 | 0,_,_,h=>.inl ⟨h,rfl,rfl⟩
 | n + 1,o,s,h=>by
  rcases BW7 h with ⟨h1,h2,h3⟩ | ⟨h1,h2⟩
  ·rcases BD5 n h1 with ⟨k1,k2,k3⟩ | ⟨k1,k2⟩
   ·refine .inl ⟨k1,?_,?_⟩
    ·show _ :: _ = _ :: _;rw [h2,k2]
    ·show ((_ :: _:List TB).all _) = true;rw [List.all_cons,h3,k3];rfl
   ·refine .inr ⟨k1,?_⟩
    show ((_ :: _:List TB).all _) = false;rw [List.all_cons,k2,Bool.and_false]
  ·refine .inr ⟨?_,?_⟩
   ·show (pB n (pB1 o).2).2 = none;rw [h1];exact Aa5 n
   ·show ((_ :: _:List TB).all _) = false;rw [List.all_cons,h2,Bool.false_and]
def Bc4 (x:TR):Bool:=inR x.1 0 19 && x.2.1.all fun v=>inR v 0 999999
theorem BZ8 {o:LO} {s:SO1} (h:Sy o s):(Sy (pR1 o).2 (sR1 s).2 ∧ (pR1 o).1 = (sR1 s).1) ∨ ((pR1 o).2 = none ∧ ((sR1 s).2.2 = true ∨ Bc4 (sR1 s).1 = false)):=by
 rcases Az7 h 19 with ⟨h1,h2,h3⟩ | ⟨h1,h2⟩
 ·rcases A5Y h1 32 with ⟨k1,k2,k3⟩ | ⟨k1,k2⟩
  ·have hk:(pN 32 (pN 19 o).2).1.toNat = (sC 32 (sN s).2).1.toNat:=by rw [k2]
   rcases A0L 999999 (sC 32 (sN s).2).1.toNat k1 with ⟨m1,m2,m3⟩ | ⟨m1,m2⟩
   ·refine .inl ⟨?_,?_⟩
    ·show Sy (pS 999999 (pN 32 (pN 19 o).2).1.toNat _).2 _;rw [hk];exact m1
    ·show ((pN 19 o).1,((pS 999999 (pN 32 (pN 19 o).2).1.toNat _).1,())) = (_,(_,()));rw [hk,h2,m2]
   ·refine .inr ⟨?_,.inr ?_⟩
    ·show (pS 999999 (pN 32 (pN 19 o).2).1.toNat _).2 = none;rw [hk];exact m1
    ·unfold Bc4
     show (_ && ((sS (sC 32 (sN s).2).1.toNat (sC 32 (sN s).2).2).1.all _)) = false
     rw [m2,Bool.and_false]
  ·refine .inr ⟨?_,.inl (Aq4 _ k2)⟩
   show (pS 999999 _ (pN 32 (pN 19 o).2).2).2 = none;rw [k1];exact AS0 _ _
 ·refine .inr ⟨?_,.inr ?_⟩
  ·show (pS 999999 _ (pN 32 (pN 19 o).2).2).2 = none;rw [h1];exact AS0 _ _
  ·unfold Bc4
   show (inR (sN s).1 0 19 && _) = false
   rw [h2,Bool.false_and]
theorem BQ1:∀ (n:Nat) {o:LO} {s:SO1},Sy o s → (Sy (pR n o).2 (sR n s).2 ∧ (pR n o).1 = (sR n s).1) ∨ ((pR n o).2 = none ∧ ((sR n s).2.2 = true ∨ (sR n s).1.all Bc4 = false))
 | 0,_,_,h=>.inl ⟨h,rfl⟩
 | n + 1,o,s,h=>by
  rcases BZ8 h with ⟨h1,h2⟩ | ⟨h1,h2⟩
  ·rcases BQ1 n h1 with ⟨k1,k2⟩ | ⟨k1,k2⟩
   ·refine .inl ⟨k1,?_⟩
    show _ :: _ = _ :: _;rw [h2,k2]
   ·refine .inr ⟨k1,k2.imp id fun k2=>?_⟩
    show ((_ :: _:List TR).all _) = false;rw [List.all_cons,k2,Bool.and_false]
  ·refine .inr ⟨?_,h2.imp (fun h2=>A0e n h2) fun h2=>?_⟩
   ·show (pR n (pR1 o).2).2 = none;rw [h1];exact A1b n
   ·show ((_ :: _:List TR).all _) = false;rw [List.all_cons,h2,Bool.false_and]
def nob:List (List TB):=List.replicate 15 []
def pK (o:LO):List Int × LO:=pS 7 12 o
def pT (o:LO):List TB × LO:=pB (pN 12 (pK o).2).1.toNat (pN 12 (pK o).2).2
def pY (o:LO):List Int × LO:=pS 9999 11 (pT o).2
def pZ (o:LO):List TR × LO:=pR (pN 2 (pY o).2).1.toNat (pN 2 (pY o).2).2
def A9q (o:LO):TE:=((pY o).1,(((pK o).1,((pT o).1,(nob,()))),()))
def sK (s:SO1):List Int × SO1:=sS 12 s
def sT (s:SO1):List TB × SO1:=sB (sC 12 (sK s).2).1.toNat (sC 12 (sK s).2).2
def sY (s:SO1):List Int × SO1:=sS 11 (sT s).2
def sZ (s:SO1):List TR × SO1:=sR (sC 2 (sY s).2).1.toNat (sC 2 (sY s).2).2
def As5 (s:SO1):TE:=((sY s).1,(((sK s).1,((sT s).1,(nob,()))),()))
theorem A8G {o:LO} (h:(pK o).2 = none):(pT o).2 = none:=by unfold pT;rw [h];exact Aa5 _
theorem A04 {o:LO} (h:(pT o).2 = none):(pY o).2 = none:=by unfold pY;rw [h];exact AS0 _ _
theorem Al1 {o:LO} (h:(pY o).2 = none):(pZ o).2 = none:=by unfold pZ;rw [h];exact A1b _
theorem BY0 {s:SO1} (h:(sK s).2.2 = true):(sT s).2.2 = true:=Ak8 _ (A1R h)
theorem BF6 {s:SO1} (h:(sT s).2.2 = true):(sY s).2.2 = true:=Aq4 _ h
theorem BF2 {s:SO1} (h:(sY s).2.2 = true):(sZ s).2.2 = true:=A0e _ (A1R h)
theorem A0d {s:SO1} (h:s.2 = true):sE s = false:=by unfold sE;rw [h];simp
structure EncLaw (enc:TE → Bool):Prop where
 pos:∀ e,enc e = true → (e.2.1.1.all fun x=>inR x 0 7) = true
 stash:∀ e,enc e = true → e.2.1.2.1.all Ag9 = true
 keys:∀ e,enc e = true → (e.1.all fun x=>inR x 0 9999) = true
theorem BN1 {a b:Bool} (h:a = true → b = true) (hb:b = false):a = false:=by
 cases a with
 | false=>rfl
 | true=>rw [h rfl] at hb;cases hb
theorem A7z {enc:TE → Bool} {res:List TR → Bool} (he:EncLaw enc) (hr:∀ l,res l = true → l.all Bc4 = true) {o:LO} {s:SO1} (h:Sy o s ∨ (o = none ∧ s.2 = true)):
  (pE (pZ o).2 && (enc (A9q o) && res (pZ o).1)) = (sE (sZ s).2 && (enc (As5 s) && res (sZ s).1)) ∧ (sE (sZ s).2 = true → enc (As5 s) = true → res (sZ s).1 = true → A9q o = As5 s ∧ (pZ o).1 = (sZ s).1):=by
 have Bd4:(pZ o).2 = none → (sZ s).2.2 = true → (pE (pZ o).2 && (enc (A9q o) && res (pZ o).1)) = (sE (sZ s).2 && (enc (As5 s) && res (sZ s).1)) ∧ (sE (sZ s).2 = true → enc (As5 s) = true → res (sZ s).1 = true → A9q o = As5 s ∧ (pZ o).1 = (sZ s).1):=fun h1 h2=>by
  rw [h1,A0d h2]
  exact ⟨rfl,fun h=>nomatch h⟩
 have noenc:(pZ o).2 = none → enc (As5 s) = false → (pE (pZ o).2 && (enc (A9q o) && res (pZ o).1)) = (sE (sZ s).2 && (enc (As5 s) && res (sZ s).1)) ∧ (sE (sZ s).2 = true → enc (As5 s) = true → res (sZ s).1 = true → A9q o = As5 s ∧ (pZ o).1 = (sZ s).1):=fun h1 h2=>by
  rw [h1,h2,Bool.false_and,Bool.and_false]
  exact ⟨rfl,fun _ h=>nomatch h⟩
 rcases h with h | ⟨h1,h2⟩
 rotate_left
 ·subst h1
  exact Bd4 (Al1 (A04 (A8G (AS0 _ _)))) (BF2 (BF6 (BY0 (Aq4 _ h2))))
 rcases A0L 7 12 h with ⟨h1,h2,h3⟩ | ⟨h1,h2⟩
 rotate_left
 ·exact noenc (Al1 (A04 (A8G h1))) (BN1 (he.pos (As5 s)) h2)
 rcases A5Y h1 12 with ⟨c1,c2,c3⟩ | ⟨c1,c2⟩
 rotate_left
 ·refine Bd4 (Al1 (A04 ?_)) (BF2 (BF6 (Ak8 _ c2)))
  show (pB _ (pN 12 (pS 7 12 o).2).2).2 = none
  rw [c1];exact Aa5 _
 have hk:(pN 12 (pK o).2).1.toNat = (sC 12 (sK s).2).1.toNat:=congrArg Int.toNat c2
 have c1:Sy (pN 12 (pK o).2).2 (sC 12 (sK s).2).2:=c1
 rcases BD5 (sC 12 (sK s).2).1.toNat c1 with ⟨b1,b2,b3⟩ | ⟨b1,b2⟩
 rotate_left
 ·refine noenc (Al1 (A04 ?_)) (BN1 (he.stash (As5 s)) b2)
  unfold pT;rw [hk];exact b1
 have b1:Sy (pT o).2 (sT s).2:=by unfold pT;rw [hk];exact b1
 have b2:(pT o).1 = (sT s).1:=by unfold pT;rw [hk];exact b2
 rcases A0L 9999 11 b1 with ⟨y1,y2,y3⟩ | ⟨y1,y2⟩
 rotate_left
 ·exact noenc (Al1 y1) (BN1 (he.keys (As5 s)) y2)
 have y1:Sy (pY o).2 (sY s).2:=y1
 have y2:(pY o).1 = (sY s).1:=y2
 have h2:(pK o).1 = (sK s).1:=h2
 have ee:A9q o = As5 s:=by unfold A9q As5;rw [h2,b2,y2]
 rcases A5Y y1 2 with ⟨d1,d2,d3⟩ | ⟨d1,d2⟩
 rotate_left
 ·refine Bd4 ?_ (A0e _ d2)
  unfold pZ;rw [d1];exact A1b _
 have hd:(pN 2 (pY o).2).1.toNat = (sC 2 (sY s).2).1.toNat:=congrArg Int.toNat d2
 rcases BQ1 (sC 2 (sY s).2).1.toNat d1 with ⟨r1,r2⟩ | ⟨r1,r2⟩
 ·have r1:Sy (pZ o).2 (sZ s).2:=by unfold pZ;rw [hd];exact r1
  have r2:(pZ o).1 = (sZ s).1:=by unfold pZ;rw [hd];exact r2
  have re:pE (pZ o).2 = sE (sZ s).2:=by
   rw [r1.1];unfold sE;rw [r1.2,Bool.not_false,Bool.and_true];rfl
  rw [ee,r2,re]
  exact ⟨rfl,fun _ _ _=>⟨rfl,rfl⟩⟩
 ·have r1:(pZ o).2 = none:=by unfold pZ;rw [hd];exact r1
  rcases r2 with r2 | r2
  ·exact Bd4 r1 r2
  ·have hz:res (sZ s).1 = false:=BN1 (hr _) r2
   rw [r1,hz,Bool.and_false,Bool.and_false]
   exact ⟨rfl,fun _ _ h=>nomatch h⟩
def pV (o:LO):List TB × LO:=pB (pN 2 o).1.toNat (pN 2 o).2
def sV (s:SO1):List TB × SO1:=sB (sC 2 s).1.toNat (sC 2 s).2
def A1k (l:List TB):Bool:=l.all Ag9 && decide (l.length ≤ 2)
theorem A5T:∀ (n:Nat) (o:LO),(pB n o).1.length = n
 | 0,_=>rfl
 | n + 1,o=>by show (_ :: _:List TB).length = _;rw [List.length_cons,A5T n]
theorem BA2:∀ (n:Nat) (o:SO1),(sB n o).1.length = n
 | 0,_=>rfl
 | n + 1,o=>by show (_ :: _:List TB).length = _;rw [List.length_cons,BA2 n]
theorem A4d {o:LO} {s:SO1} (h:Sy o s ∨ (o = none ∧ s.2 = true)):
  pE (pV o).2 = (sE (sV s).2 && A1k (sV s).1) ∧ (sE (sV s).2 = true → A1k (sV s).1 = true → (pV o).1 = (sV s).1):=by
 rcases h with h | ⟨h1,h2⟩
 rotate_left
 ·subst h1
  have:(sV s).2.2 = true:=Ak8 _ (A1R h2)
  rw [A0d this]
  refine ⟨?_,fun h=>nomatch h⟩
  have:(pV none).2 = none:=Aa5 _
  rw [this];rfl
 rcases A5Y h 2 with ⟨c1,c2,c3⟩ | ⟨c1,c2⟩
 rotate_left
 ·have hv:(sV s).2.2 = true:=Ak8 _ c2
  rw [A0d hv]
  refine ⟨?_,fun h=>nomatch h⟩
  have:(pV o).2 = none:=by unfold pV;rw [c1];exact Aa5 _
  rw [this];rfl
 have hk:(pN 2 o).1.toNat = (sC 2 s).1.toNat:=congrArg Int.toNat c2
 have hl:(sV s).1.length ≤ 2:=by
  unfold sV;rw [BA2]
  simp only [inR,Bool.and_eq_true,decide_eq_true_eq] at c3
  omega
 have eb:A1k (sV s).1 = (sV s).1.all Ag9:=by unfold A1k;rw [decide_eq_true hl,Bool.and_true]
 rw [eb]
 rcases BD5 (sC 2 s).1.toNat c1 with ⟨b1,b2,b3⟩ | ⟨b1,b2⟩
 ·have b1:Sy (pV o).2 (sV s).2:=by unfold pV;rw [hk];exact b1
  have b2:(pV o).1 = (sV s).1:=by unfold pV;rw [hk];exact b2
  have b3:(sV s).1.all Ag9 = true:=b3
  rw [b3,Bool.and_true]
  refine ⟨?_,fun _ _=>b2⟩
  rw [b1.1];unfold sE;rw [b1.2,Bool.not_false,Bool.and_true];rfl
 ·have b1:(pV o).2 = none:=by unfold pV;rw [hk];exact b1
  have b2:(sV s).1.all Ag9 = false:=b2
  rw [b1,b2,Bool.and_false]
  exact ⟨rfl,fun _ h=>nomatch h⟩
end Go.Rf

end
section
namespace Go.Rf
def A12:Nat → Nat → List Int
 | 0,_=>[]
 | f + 1,a=>if a = 0 then [0] else A12 f ((a - 1) / 2) ++ [(a:Int)]
def AD8 (leaf:Int):List Int:=A12 4 (7 + leaf.toNat)
def onB (i:Nat) (leaf:Int):Bool:=(AD8 leaf).any fun x=>decide (x = (i:Int))
def AQ2 (l:List Int) (n:Int):Bool:=l.any fun x=>decide (x = n)
def A3e (pos:List Int) (b:TB):Bool:=inR b.1 0 11 && (decide (pos.getD b.1.toNat 0 = b.2.1) && inR b.2.2.1 0 999999)
def ids (l:List TB):List Int:=l.map (·.1)
def Ah1 (pos:List Int):List Int → List TB → Bool
 | _,[]=>true
 | seen,b :: r=>(A3e pos b && !AQ2 seen b.1) && Ah1 pos (seen ++ [b.1]) r
def BG6 (pos:List Int) (i:Nat):List Int → List TB → Bool
 | _,[]=>true
 | seen,b :: r=>((A3e pos b && !AQ2 seen b.1) && onB i b.2.1) && BG6 pos i (seen ++ [b.1]) r
def bkS (pos:List Int):Nat → List Int → List (List TB) → Bool
 | _,_,[]=>true
 | i,seen,k :: r=>decide (k.length ≤ 2) && (BG6 pos i seen k && bkS pos (i + 1) (seen ++ ids k) r)
def BX9:Nat → List (List TB) → Bool
 | _,[]=>true
 | i,k :: r=>decide (k.length ≤ 2) && ((k.all fun b=>onB i b.2.1) && BX9 (i + 1) r)
def gW (n:Int):Bool:=inR n 0 7
def Al6 (o:TO):Bool:=decide (o.1.length = 12) && (o.1.all gW && (decide (o.2.1.length ≤ 12) && (decide (o.2.2.1.length = 15) && (Ah1 o.1 [] o.2.1 && bkS o.1 0 (ids o.2.1) o.2.2.1))))
def A3g:List Int → List Int → Bool
 | _,[]=>true
 | seen,k :: r=>if k = 0 then A3g seen r else (inR k 1 9999 && !AQ2 seen k) && A3g (seen ++ [k]) r
def Aa9 (e:TE):Bool:=A3g [] e.1 && (decide (e.1.length = 11) && Al6 e.2.1)
theorem BF1 (pos seen:List Int) (b:TB) (r:List TB):Ah1 pos seen (b :: r) = ((A3e pos b && !AQ2 seen b.1) && Ah1 pos (seen ++ [b.1]) r):=rfl
theorem A8d (pos:List Int) (i:Nat) (seen:List Int) (b:TB) (r:List TB):BG6 pos i seen (b :: r) = (((A3e pos b && !AQ2 seen b.1) && onB i b.2.1) && BG6 pos i (seen ++ [b.1]) r):=rfl
theorem BL8 (pos:List Int) (i:Nat) (seen:List Int) (k:List TB) (r:List (List TB)):bkS pos i seen (k :: r) = (decide (k.length ≤ 2) && (BG6 pos i seen k && bkS pos (i + 1) (seen ++ ids k) r)):=rfl
def Be8:List Int → List Int → Bool
 | _,[]=>true
 | seen,k :: r=>(inR k 0 9999 && !(decide (0 < k) && AQ2 seen k)) && Be8 (seen ++ [k]) r
theorem A9A (seen:List Int) (k:Int) (r:List Int):Be8 seen (k :: r) = ((inR k 0 9999 && !(decide (0 < k) && AQ2 seen k)) && Be8 (seen ++ [k]) r):=rfl
theorem AU5 (a b:List Int) (n:Int):AQ2 (a ++ b) n = (AQ2 a n || AQ2 b n):=List.any_append
theorem A5F:∀ (l sS sP:List Int),(∀ k,0 < k → AQ2 sS k = AQ2 sP k) → Be8 sS l = A3g sP l
 | [],_,_,_=>rfl
 | k :: r,sS,sP,h=>by
  have e0:AQ2 [k] = fun n=>(decide (k = n) || false):=rfl
  unfold Be8 A3g
  by_cases hk:k = 0
  ·subst hk
   rw [if_pos rfl,A5F r (sS ++ [0]) sP (fun k hk=>by rw [AU5,h k hk,e0];simp only [Bool.or_false];rw [decide_eq_false (by omega),Bool.or_false])]
   rfl
  ·rw [if_neg hk]
   by_cases h0:0 < k
   ·rw [A5F r (sS ++ [k]) (sP ++ [k]) (fun n hn=>by rw [AU5,AU5,h n hn]),h k h0,decide_eq_true h0,Bool.true_and]
    congr 2
    unfold inR
    rw [decide_eq_true (show 0 ≤ k by omega),decide_eq_true (show 1 ≤ k by omega)]
   ·have e1:inR k 0 9999 = false:=by unfold inR;rw [decide_eq_false (by omega)];rfl
    have e2:inR k 1 9999 = false:=by unfold inR;rw [decide_eq_false (by omega)];rfl
    rw [e1,e2];rfl
theorem A0k:∀ (l seen:List Int),A3g seen l = true → (l.all fun x=>inR x 0 9999) = true
 | [],_,_=>rfl
 | k :: r,seen,h=>by
  unfold A3g at h
  rw [List.all_cons]
  by_cases hk:k = 0
  ·subst hk
   rw [if_pos rfl] at h
   rw [A0k r seen h];rfl
  ·rw [if_neg hk] at h
   simp only [Bool.and_eq_true] at h
   rw [A0k r _ h.2]
   have:=h.1.1
   unfold inR at this ⊢
   simp only [Bool.and_eq_true,decide_eq_true_eq] at this
   rw [decide_eq_true (show 0 ≤ k by omega),decide_eq_true this.2];rfl
theorem A0V (pos:List Int):∀ (a b:List TB) (seen:List Int),Ah1 pos seen (a ++ b) = (Ah1 pos seen a && Ah1 pos (seen ++ ids a) b)
 | [],b,seen=>by show _ = (true && _);rw [show ids [] = [] from rfl,List.append_nil,Bool.true_and];rfl
 | x :: a,b,seen=>by
  show (_ && Ah1 pos (seen ++ [x.1]) (a ++ b)) = ((_ && Ah1 pos (seen ++ [x.1]) a) && _)
  rw [A0V pos a b,show ids (x :: a) = [x.1] ++ ids a from rfl,← List.append_assoc,← Bool.and_assoc]
theorem A8J (pos:List Int) (i:Nat):∀ (l:List TB) (seen:List Int),BG6 pos i seen l = (Ah1 pos seen l && l.all fun b=>onB i b.2.1)
 | [],_=>rfl
 | x :: l,seen=>by
  show ((_ && onB i x.2.1) && BG6 pos i (seen ++ [x.1]) l) = ((_ && Ah1 pos (seen ++ [x.1]) l) && _)
  rw [A8J pos i l,List.all_cons]
  cases (A3e pos x && !AQ2 seen x.1) <;> cases onB i x.2.1 <;> cases Ah1 pos (seen ++ [x.1]) l <;> rfl
theorem BP8 (pos:List Int):∀ (l:List (List TB)) (i:Nat) (seen:List Int),bkS pos i seen l = (BX9 i l && Ah1 pos seen l.flatten)
 | [],_,_=>rfl
 | k :: r,i,seen=>by
  show (_ && (BG6 pos i seen k && bkS pos (i + 1) (seen ++ ids k) r)) = ((_ && (_ && BX9 (i + 1) r)) && Ah1 pos seen (k ++ r.flatten))
  rw [A8J,BP8 pos r,A0V]
  cases decide (k.length ≤ 2) <;> cases (k.all fun b=>onB i b.2.1) <;> cases BX9 (i + 1) r <;> cases Ah1 pos seen k <;> rfl
def BF8 (pos:List Int):List Bool → List TB → Bool
 | _,[]=>true
 | arr,b :: r=>(Ag9 b && (decide (b.2.1 = pos.getD b.1.toNat 0) && !arr.getD b.1.toNat false)) && BF8 pos (arr.set b.1.toNat true) r
def BZ9:Nat → List (List TB) → Bool
 | _,[]=>true
 | i,k :: r=>(decide (k.length ≤ 2) && k.all fun b=>gW b.2.1 && onB i b.2.1) && BZ9 (i + 1) r
def Bb5 (o:TO):Bool:=decide (o.1.length = 12) && (o.1.all gW && (decide (o.2.2.1.length = 15) && (BZ9 0 o.2.2.1 && BF8 o.1 (List.replicate 12 false) (o.2.1 ++ o.2.2.1.flatten))))
def Arr (arr:List Bool) (seen:List Int):Prop:=arr.length = 12 ∧ ∀ j:Nat,j < 12 → arr.getD j false = AQ2 seen (j:Int)
theorem Arr.step {arr:List Bool} {seen:List Int} (h:Arr arr seen) {n:Int} (hn:inR n 0 11 = true):Arr (arr.set n.toNat true) (seen ++ [n]):=by
 unfold inR at hn
 simp only [Bool.and_eq_true,decide_eq_true_eq] at hn
 refine ⟨by rw [List.length_set];exact h.1,fun j hj=>?_⟩
 rw [AU5,← h.2 j hj,show AQ2 [n] (j:Int) = (decide (n = (j:Int)) || false) from rfl,Bool.or_false,List.getD_eq_getElem?_getD,List.getD_eq_getElem?_getD,List.getElem?_set]
 by_cases he:n.toNat = j
 ·rw [if_pos he,if_pos (by rw [h.1];omega),decide_eq_true (show n = (j:Int) by omega),Bool.or_true];rfl
 ·rw [if_neg he,decide_eq_false (show ¬ n = (j:Int) by omega),Bool.or_false]
theorem BU7 {pos:List Int} (hl:pos.length = 12) (hp:pos.all gW = true) {n:Int} (hn:inR n 0 11 = true):gW (pos.getD n.toNat 0) = true:=by
 unfold inR at hn
 simp only [Bool.and_eq_true,decide_eq_true_eq] at hn
 have hlt:n.toNat < pos.length:=by omega
 have:pos.getD n.toNat 0 = pos[n.toNat]:=by rw [List.getD_eq_getElem?_getD,List.getElem?_eq_getElem hlt];rfl
 rw [this]
 exact List.all_eq_true.1 hp _ (List.getElem_mem hlt)
theorem A4J {pos:List Int} (hl:pos.length = 12) (hp:pos.all gW = true):∀ (l:List TB) (arr:List Bool) (seen:List Int),Arr arr seen → BF8 pos arr l = Ah1 pos seen l
 | [],_,_,_=>rfl
 | b :: r,arr,seen,h=>by
  show (_ && BF8 pos (arr.set b.1.toNat true) r) = (_ && Ah1 pos (seen ++ [b.1]) r)
  unfold Ag9 A3e
  cases h1:inR b.1 0 11 with
  | false=>rfl
  | true=>
   rw [A4J hl hp r _ _ (h.step h1)]
   have hp1:=BU7 hl hp h1
   have h1':=h1
   unfold inR at h1'
   simp only [Bool.and_eq_true,decide_eq_true_eq] at h1'
   have ha:=h.2 b.1.toNat (by omega)
   rw [Int.toNat_of_nonneg h1'.1] at ha
   rw [ha]
   by_cases he:b.2.1 = pos.getD b.1.toNat 0
   ·have h2:inR b.2.1 0 7 = true:=by rw [he];exact hp1
    rw [decide_eq_true he,decide_eq_true he.symm,h2]
    cases inR b.2.2.1 0 999999 <;> cases AQ2 seen b.1 <;> rfl
   ·rw [decide_eq_false he,decide_eq_false (fun h=>he h.symm)]
    cases inR b.2.1 0 7 <;> cases inR b.2.2.1 0 999999 <;> cases AQ2 seen b.1 <;> rfl
def BG0:List Bool → Nat
 | []=>0
 | true :: r=>BG0 r
 | false :: r=>BG0 r + 1
theorem A5b:∀ (arr:List Bool) (j:Nat),j < arr.length → arr.getD j false = false → BG0 (arr.set j true) + 1 = BG0 arr
 | [],j,h,_=>absurd h (Nat.not_lt_zero _)
 | x :: r,0,_,h=>by
  have h:x = false:=h
  subst h;rfl
 | x :: r,j + 1,hj,h=>by
  have:=A5b r j (by simpa using hj) h
  show BG0 (x :: r.set j true) + 1 = _
  cases x
  ·show BG0 (r.set j true) + 1 + 1 = BG0 r + 1;omega
  ·show BG0 (r.set j true) + 1 = BG0 r;omega
theorem A53 {pos:List Int}:∀ (l:List TB) (arr:List Bool),arr.length = 12 → BF8 pos arr l = true → l.length ≤ BG0 arr
 | [],_,_,_=>Nat.zero_le _
 | b :: r,arr,ha,h=>by
  have h:((Ag9 b && (decide (b.2.1 = pos.getD b.1.toNat 0) && !arr.getD b.1.toNat false)) && BF8 pos (arr.set b.1.toNat true) r) = true:=h
  simp only [Bool.and_eq_true,Bool.not_eq_true'] at h
  have h1:=h.1.1
  unfold Ag9 at h1
  simp only [Bool.and_eq_true] at h1
  have h1:=h1.1
  unfold inR at h1
  simp only [Bool.and_eq_true,decide_eq_true_eq] at h1
  have:=A5b arr b.1.toNat (by omega) h.1.2.2
  have:=A53 r _ (by rw [List.length_set];exact ha) h.2
  rw [List.length_cons];omega
theorem A0b {pos:List Int}:∀ (l:List TB) (seen:List Int),Ah1 pos seen l = true → l.all (A3e pos) = true
 | [],_,_=>rfl
 | b :: r,seen,h=>by
  have h:((A3e pos b && !AQ2 seen b.1) && Ah1 pos (seen ++ [b.1]) r) = true:=h
  simp only [Bool.and_eq_true] at h
  rw [List.all_cons,h.1.1,A0b r _ h.2];rfl
theorem A4x {pos:List Int} (hl:pos.length = 12) (hp:pos.all gW = true) {b:TB} (h:A3e pos b = true):Ag9 b = true:=by
 unfold A3e at h
 simp only [Bool.and_eq_true,decide_eq_true_eq] at h
 unfold Ag9
 rw [h.1,h.2.2,← h.2.1,show inR (pos.getD b.1.toNat 0) 0 7 = true from BU7 hl hp h.1];rfl
theorem BE0 {pos:List Int} (hl:pos.length = 12) (hp:pos.all gW = true):∀ (l:List (List TB)) (i:Nat),l.flatten.all (A3e pos) = true → BZ9 i l = BX9 i l
 | [],_,_=>rfl
 | k :: r,i,h=>by
  rw [List.flatten_cons,List.all_append] at h
  simp only [Bool.and_eq_true] at h
  have e:∀ (k:List TB),k.all (A3e pos) = true → (k.all fun b=>gW b.2.1 && onB i b.2.1) = k.all fun b=>onB i b.2.1:=fun k hk=>by
   induction k with
   | nil=>rfl
   | cons b k ih=>
    rw [List.all_cons] at hk
    simp only [Bool.and_eq_true] at hk
    have:=A4x hl hp hk.1
    unfold Ag9 at this
    simp only [Bool.and_eq_true] at this
    rw [List.all_cons,List.all_cons,ih hk.2,show gW b.2.1 = true from this.2.1];rfl
  show ((_ && _) && BZ9 (i + 1) r) = (_ && (_ && BX9 (i + 1) r))
  rw [BE0 hl hp r (i + 1) h.2,e k h.1,Bool.and_assoc]
theorem Bs3:Arr (List.replicate 12 false) []:=by
 refine ⟨List.length_replicate,fun j hj=>?_⟩
 rw [List.getD_eq_getElem?_getD,List.getElem?_replicate,if_pos hj];rfl
theorem BP0 (o:TO):Bb5 o = Al6 o:=by
 unfold Bb5 Al6
 by_cases h1:o.1.length = 12
 ·cases h2:o.1.all gW with
  | false=>simp
  | true=>
   rw [A4J h1 h2 _ _ _ Bs3,BP8]
   have ea:Ah1 o.1 (ids o.2.1) o.2.2.1.flatten = Ah1 o.1 ([] ++ ids o.2.1) o.2.2.1.flatten:=rfl
   rw [ea]
   have es:=A0V o.1 o.2.1 o.2.2.1.flatten []
   cases h3:Ah1 o.1 [] (o.2.1 ++ o.2.2.1.flatten) with
   | true=>
    rw [h3] at es
    have es:=es.symm
    simp only [Bool.and_eq_true] at es
    have hall:=A0b _ _ es.2
    have hlen:o.2.1.length ≤ 12:=by
     have:=A53 (pos:=o.1) o.2.1 (List.replicate 12 false) rfl (by rw [A4J h1 h2 _ _ _ Bs3];exact es.1)
     exact this
    rw [BE0 h1 h2 _ _ hall,es.1,es.2,decide_eq_true hlen]
    cases decide (o.2.2.1.length = 15) <;> cases BX9 0 o.2.2.1 <;> rfl
   | false=>
    rw [h3] at es
    cases h4:Ah1 o.1 [] o.2.1 with
    | false=>simp
    | true=>
     rw [h4,Bool.true_and] at es
     rw [← es];simp
 ·rw [decide_eq_false h1];rfl
theorem BH8:EncLaw Aa9:=by
 have hh:∀ e,Aa9 e = true → A3g [] e.1 = true ∧ e.1.length = 11 ∧ e.2.1.1.length = 12 ∧ e.2.1.1.all gW = true ∧ Ah1 e.2.1.1 [] e.2.1.2.1 = true:=fun e h=>by
  unfold Aa9 Al6 at h
  simp only [Bool.and_eq_true,decide_eq_true_eq] at h
  exact ⟨h.1,h.2.1,h.2.2.1,h.2.2.2.1,h.2.2.2.2.2.2.1⟩
 refine ⟨fun e h=>(hh e h).2.2.2.1,fun e h=>?_,fun e h=>A0k _ _ (hh e h).1⟩
 obtain ⟨h1,h2,h3,h4,h5⟩:=hh e h
 have:=A0b _ _ h5
 rw [List.all_eq_true] at this ⊢
 exact fun b hb=>A4x h3 h4 (this b hb)
end Go.Rf

end
section
namespace Go.Rf
set_option linter.unusedSectionVars false
variable [T:Laid]
open Go.RowKit
def Ao2 (E:Env) (c:FCfg) (f:FuncId) (ds:List Dyn) (x:c.rt.D):Prop:=
 ∀ (w:World) (S:Nat → Prop) (β:Key → Option Nat) (cs:List (List Value)),Sane w S β → tH S β w c.modes ds cs 0 → Ac0 E.P f (yC ds cs).toArray w (Ret c x cs w S β)
def Bs5 (τ:Ty) (d:Dyn):Option (List τ.D):=lL d.t (.sl τ) d.x
def BY6 (d:Dyn):Option Int:=lL d.t (.int .i64) d.x
theorem A7O {d:Dyn} {n:Int} (h:BY6 d = some n):d = ⟨.int .i64,n⟩:=by
 obtain ⟨t,x⟩:=d
 obtain ⟨e,h⟩:=vX h
 cases e;cases h;rfl
section
variable {E:Env} {w w':World} {S:Nat → Prop} {β:Key → Option Nat} {keep:List Nat} {mv:List (Nat × Nat)} {ms:List Mode} {ax:List (List Value)}
theorem A07 {b o:Nat} {cs:Array Value} (hB:Blk w b cs) {v:Value} (h:cs.toList[o]? = some v):w.cell? ⟨b,o,none⟩ = some v:=by
 obtain ⟨e,fz,hb⟩:=hB
 rw [Array.getElem?_toList] at h
 simp only [World.cell?,hb]
 simpa using h
theorem Ab7 (hs:Sane w S β) (h:Below w.heap.size w w'):Sane w' S β ∧ Step w S β w' S β:=
 ⟨⟨hs.inj,hs.sep,fun k b hk=>Nat.lt_of_lt_of_le (hs.live k b hk) h.size,fun b hb=>Nat.lt_of_lt_of_le (hs.liveS b hb) h.size,hs.tabs fun b hb=>⟨hb,h.block b (hs.liveS b hb)⟩⟩,
  ⟨h.size,fun b hb _=>h.block b hb,fun k b hk=>.inl ⟨k,hk⟩,fun _ h=>h,fun _ h=>.inl h,⟨h.os,h.tape,h.output⟩⟩⟩
theorem A1T (hs:Sane w S β) (h:Below w.heap.size w w') {t:List UInt8} (hio:AS1 S β w' ms ax 0 .unit ()):
  Ret ⟨ms,1,.pair .str .unit,.sh,keep,mv⟩ (t,()) ax w S β (.string ⟨⟨t⟩⟩) w':=by
 obtain ⟨h1,h2⟩:=Ab7 hs h
 refine ⟨S,β,[[.string ⟨⟨t⟩⟩]],h1,h2,?_,rfl,hio⟩
 simp only [oO]
 refine ⟨?_,trivial⟩
 refine yQ.2 ?_
 simp [Rd]
def A9W (d:Dyn):Option (List UInt8):=lL d.t .str d.x
theorem A7m {d:Dyn} {s:List UInt8} (h:A9W d = some s):d = ⟨.str,s⟩:=by
 obtain ⟨t,x⟩:=d
 obtain ⟨e,h⟩:=vX h
 cases e;cases h;rfl
end
end Go.Rf

end
section
namespace Go.Rf
set_option linter.unusedSectionVars false
variable [T:Laid]
open Go.Shelf Go.RowKit Go.Lib Go.Proofs
section
variable {E:Env} {ρ:Ren} {w w':World} {S:Nat → Prop} {β:Key → Option Nat} {keep:List Nat} {mv:List (Nat × Nat)} {ms:List Mode} {ax:List (List Value)}
def Bm7:List Dyn → Option (Ty.pair .str .unit).D
 | [a,b]=>(A9W a).bind fun s=>(BY6 b).bind fun n=>cond (decide (0 ≤ n) && (Nat.blt 0 s.length && Nat.ble (s.length * n.toNat) 1099511627776)) (some (repeatL s n.toNat,())) none
 | _=>none
theorem A99 {ds:List Dyn} {x:(Ty.pair .str .unit).D} (h:Bm7 ds = some x):∃ (s:List UInt8) (n:Nat),ds = [⟨.str,s⟩,⟨.int .i64,(n:Int)⟩] ∧ 0 < s.length ∧ s.length * n ≤ 1099511627776 ∧ x = (repeatL s n,()):=by
 unfold Bm7 at h
 split at h
 ·rename_i a b
  obtain ⟨s,h1,h⟩:=Option.bind_eq_some_iff.1 h
  obtain ⟨n,h2,h⟩:=Option.bind_eq_some_iff.1 h
  rw [A7m h1,A7O h2]
  cases hb:(decide (0 ≤ n) && (Nat.blt 0 s.length && Nat.ble (s.length * n.toNat) 1099511627776)) with
  | false=>rw [hb] at h;cases h
  | true=>
   rw [hb] at h
   simp only [Bool.and_eq_true,decide_eq_true_eq,Nat.ble_eq,Nat.blt_eq] at hb
   exact ⟨s,n.toNat,by rw [Int.toNat_of_nonneg hb.1],hb.2.1,hb.2.2,(Option.some.inj h).symm⟩
 ·cases h
theorem BA6 {f:FuncId} {fn:Func} (L:Lays.n105 E.P ρ) (X:Builder.Extra E.P ρ) (hf:ρ.f 105 = f) (hfn:E.P.funcs[f]? = some fn) (hnm:(fn.name == "runtime.NumGoroutine") = false) (hbd:fn.body.isNone = false)
  (s:List UInt8) (n:Nat) (h1:0 < s.length) (h2:s.length * n ≤ 1099511627776):
  Ao2 E ⟨[.ro .str,.ro (.int .i64)],1,.pair .str .unit,.sh,keep,mv⟩ f [⟨.str,s⟩,⟨.int .i64,(n:Int)⟩] (repeatL s n,()):=by
 intro w S β cs hs ha
 match cs,ha with
 | [c1,c2],ha=>
  simp only [tH] at ha
  obtain ⟨_,hv,_,hv2,_⟩:=ha
  simp only [Rd] at hv hv2
  subst hv hv2
  refine .inl ⟨fn,hfn,hnm,hbd,?_⟩
  have hn:n ≤ 1099511627776:=by
   have:1 * n ≤ s.length * n:=Nat.mul_le_mul_right _ h1
   omega
  by_cases h0:n = 0
  ·subst h0
   have hcall:=Any.strings_Repeat_zero L ⟨⟨s⟩⟩ w
   rw [hf] at hcall
   refine hcall.mono ?_
   rintro e w' ⟨rfl,rfl⟩
   have e0:repeatL s 0 = []:=by simp [repeatL]
   rw [e0]
   exact A1T (t:=[]) hs (Below.refl _ _) (by simp [AS1])
  ·by_cases h1':n = 1
   ·subst h1'
    have hcall:=Any.strings_Repeat_one L ⟨⟨s⟩⟩ w
    rw [hf] at hcall
    refine hcall.mono ?_
    rintro e w' ⟨rfl,rfl⟩
    have e0:repeatL s 1 = s:=by simp [repeatL]
    rw [e0]
    exact A1T (t:=s) hs (Below.refl _ _) (by simp [AS1])
   ·have hcall:=Any.strings_Repeat_main L X ⟨⟨s⟩⟩ n w (by omega) (by omega) (Nat.le_trans h2 (by decide)) h1
    rw [hf] at hcall
    refine hcall.mono ?_
    rintro e w' ⟨rfl,hw⟩
    exact A1T (t:=repeatL s n) hs hw (by simp [AS1])
 | [],ha | [_],ha=>simp [tH] at ha
 | _ :: _ :: _ :: _,ha=>simp [tH] at ha
noncomputable def okH (E:Env) (f:FuncId) (h:List Dyn → Option (E.cfg f).rt.D):List Dyn → Option (E.cfg f).rt.D:=fun ds=>
 (h ds).bind fun x=>@ite _ (BQ6 E f ds x) (Classical.propDecidable _) (some x) none
theorem A6U {f:FuncId} {h:List Dyn → Option (E.cfg f).rt.D} {ds:List Dyn} {x:(E.cfg f).rt.D} (e:okH E f h ds = some x):BQ6 E f ds x:=by
 unfold okH at e
 obtain ⟨y,h1,h2⟩:=Option.bind_eq_some_iff.1 e
 split at h2
 ·rename_i hk
  cases h2;exact hk
 ·cases h2
theorem A5s {f:FuncId} {h:List Dyn → Option (E.cfg f).rt.D} {ds:List Dyn} {x:(E.cfg f).rt.D} (e:h ds = some x) (hk:BQ6 E f ds x):okH E f h ds = some x:=by
 unfold okH
 rw [e]
 exact if_pos hk
end
end Go.Rf

end
section
namespace Go.Rf
set_option linter.unusedSectionVars false
variable [T:Laid]
open Go.Shelf Go.RowKit Go.Lib Go.Proofs
section
variable {E:Env} {w w':World} {S:Nat → Prop} {β:Key → Option Nat} {keep:List Nat} {mv:List (Nat × Nat)} {ms:List Mode}
theorem AX6 (hs:Sane w S β) (h:Below w.heap.size w w'):Sane w' S (fun _=>none):=
 ⟨fun _ _ _ h=>(by cases h),fun _ _ h=>(by cases h),fun _ _ h=>(by cases h),fun b hb=>Nat.lt_of_lt_of_le (hs.liveS b hb) h.size,hs.tabs fun b hb=>⟨hb,h.block b (hs.liveS b hb)⟩⟩
theorem A59 {f:FuncId} {ds:List Dyn} {t:List UInt8} (h:Ao2 E ⟨ms,1,.pair .str .unit,.sh,keep,mv⟩ f ds (t,())) {cs:List (List Value)} (hs:Sane w S (fun _=>none)) (ha:tH S (fun _=>none) w ms ds cs 0)
  (he:(callFunc f (yC ds cs).toArray).run E.P w = .ok (.enter f (yC ds cs).toArray) w):
  Calls E.P f (yC ds cs).toArray w fun e w'=>e = .returned (.string ⟨⟨t⟩⟩) ∧ Below w.heap.size w w':=by
 rcases h w S _ cs hs ha with ⟨fn,h1,h2,h3,h4⟩ | ⟨v,w',h1,_⟩
 ·refine h4.mono fun e w' he=>?_
  cases e with
  | returned v=>
   obtain ⟨S',β',crs,h5,h6,h7,h8,_⟩:=he
   match crs,h7 with
   | [c],h7=>
    simp only [oO] at h7
    have h9:=yQ.1 h7.1
    simp only [Rd] at h9
    subst h9
    refine ⟨by rw [h8];rfl,h6.out.os,h6.out.tape,h6.out.output,h6.size,fun k hk=>h6.old k hk fun _ e=>(by cases e)⟩
   | [],h7=>simp [oO] at h7
   | _ :: _ :: _,h7=>simp [oO] at h7
  | _=>exact he.elim
 ·rw [he] at h1;cases h1
theorem A6b {T' e:TypeId} {B b:Nat} {bs:List Value} (h:IsBuilder T' e B b bs w) (hb:Below w.heap.size w w'):IsBuilder T' e B b bs w':=by
 have k:∀ p,BuilderAt T' e B b p bs w → BuilderAt T' e B b p bs w':=fun p h=>by
  have hl:=h.lt
  obtain ⟨hB,v,h1,h2,h3⟩:=h
  exact ⟨hB,v,by rw [hb.block b hl];exact h1,h2.kept (row:=none) ⟨hb.os,hb.tape,hb.output,hb.size,fun k hk _=>hb.block k hk⟩ (by cases v.ownBlock <;> simp),h3⟩
 exact h.imp (k _) (k _)
theorem AX4 {B:Nat} (h:Below w.heap.size w w') (hB:B ≤ w.heap.size):Below B w w':=⟨h.os,h.tape,h.output,h.size,fun k hk=>h.block k (Nat.lt_of_lt_of_le hk hB)⟩
end
end Go.Rf

end
section
namespace Go.Proofs
open Go.Shelf Go.RowKit
def Tryz.laysRep_ren:Go.Shelf.Ren:=⟨fun | 105=>311 | 212=>345 | 99=>346 | 165=>347 | 166=>320 | 170=>348 | 169=>323 | 263=>368 | 264=>369 | 206=>370 | 240=>353 | 241=>371 | 276=>378 | 277=>380 | n=>n,fun | 9=>9 | 3=>3 | 4=>4 | 20=>20 | 0=>0 | 46=>161 | 109=>321 | 5=>5 | 72=>298 | 76=>301 | 51=>288 | 146=>338 | 53=>329 | 148=>340 | 70=>296 | 37=>94 | 75=>300 | 127=>328 | 164=>348 | 80=>150 | n=>n,fun | n=>n⟩
theorem Tryz.laysRep:Go.Proofs.Lays.n105 Tryz.prog Tryz.laysRep_ren:={
 mixed:=by kernel_rfl
 f99:=Tryz.func346.trans (congrArg some (by kernel_rfl))
 f105:=Tryz.func311.trans (congrArg some (by kernel_rfl))
 f165:=Tryz.func347.trans (congrArg some (by kernel_rfl))
 f166:=Tryz.func320.trans (congrArg some (by kernel_rfl))
 f169:=Tryz.func323.trans (congrArg some (by kernel_rfl))
 f170:=Tryz.func348.trans (congrArg some (by kernel_rfl))
 f206:=Tryz.func370.trans (congrArg some (by kernel_rfl))
 f212:=Tryz.func345.trans (congrArg some (by kernel_rfl))
 f240:=Tryz.func353.trans (congrArg some (by kernel_rfl))
 f241:=Tryz.func371.trans (congrArg some (by kernel_rfl))
 f263:=Tryz.func368.trans (congrArg some (by kernel_rfl))
 f264:=Tryz.func369.trans (congrArg some (by kernel_rfl))
 f276:=Tryz.func378.trans (congrArg some (by kernel_rfl))
 f277:=Tryz.func380.trans (congrArg some (by kernel_rfl))
 t0:=Tryz.underlying0
 a0:=Tryz.isAgg0
 z0:=Tryz.sizeOf0
 v0:=Tryz.zeroValue0
 t3:=Tryz.underlying3
 a3:=Tryz.isAgg3
 z3:=Tryz.sizeOf3
 v3:=Tryz.zeroValue3
 t4:=Tryz.underlying4
 a4:=Tryz.isAgg4
 z4:=Tryz.sizeOf4
 v4:=Tryz.zeroValue4
 t5:=Tryz.underlying5
 a5:=Tryz.isAgg5
 z5:=Tryz.sizeOf5
 v5:=Tryz.zeroValue5
 t9:=Tryz.underlying9
 a9:=Tryz.isAgg9
 z9:=Tryz.sizeOf9
 v9:=Tryz.zeroValue9
 t20:=Tryz.underlying20
 a20:=Tryz.isAgg20
 z20:=Tryz.sizeOf20
 v20:=Tryz.zeroValue20
 t37:=Tryz.underlying94
 a37:=Tryz.isAgg94
 z37:=Tryz.sizeOf94
 v37:=Tryz.zeroValue94
 t46:=Tryz.underlying161
 a46:=Tryz.isAgg161
 z46:=Tryz.sizeOf161
 v46:=Tryz.zeroValue161
 t51:=Tryz.underlying288
 a51:=Tryz.isAgg288
 z51:=Tryz.sizeOf288
 v51:=Tryz.zeroValue288
 t53:=Tryz.underlying329
 a53:=Tryz.isAgg329
 z53:=Tryz.sizeOf329
 v53:=Tryz.zeroValue329
 t70:=Tryz.underlying296
 a70:=Tryz.isAgg296
 z70:=Tryz.sizeOf296
 v70:=Tryz.zeroValue296
 t72:=Tryz.underlying298
 a72:=Tryz.isAgg298
 z72:=Tryz.sizeOf298
 v72:=Tryz.zeroValue298
 t75:=Tryz.underlying300
 a75:=Tryz.isAgg300
 z75:=Tryz.sizeOf300
 v75:=Tryz.zeroValue300
 t76:=Tryz.underlying301
 a76:=Tryz.isAgg301
 z76:=Tryz.sizeOf301
 v76:=Tryz.zeroValue301
 t109:=Tryz.underlying321
 a109:=Tryz.isAgg321
 z109:=Tryz.sizeOf321
 v109:=Tryz.zeroValue321
 t127:=Tryz.underlying328
 a127:=Tryz.isAgg328
 z127:=Tryz.sizeOf328
 v127:=Tryz.zeroValue328
 t146:=Tryz.underlying338
 a146:=Tryz.isAgg338
 z146:=Tryz.sizeOf338
 v146:=Tryz.zeroValue338
 t148:=Tryz.underlying340
 a148:=Tryz.isAgg340
 z148:=Tryz.sizeOf340
 v148:=Tryz.zeroValue340
 t164:=Tryz.underlying348
 a164:=Tryz.isAgg348
 z164:=Tryz.sizeOf348
 v164:=Tryz.zeroValue348 }
theorem Tryz.extra:Builder.Extra Tryz.prog Tryz.laysRep_ren:={
 sizeBuilder:=by kernel_rfl
 liesBuilder:=by kernel_rfl
 t5:=Tryz.laysRep.t5
 a5:=Tryz.laysRep.a5
 z5:=Tryz.laysRep.z5
 v5:=Tryz.laysRep.v5
 infoByte:=by kernel_rfl
 cellsByte:=by kernel_rfl
 sizeByte:=by kernel_rfl
 neB5:=by decide }
end Go.Proofs

end
section
namespace Go.Rf
set_option linter.unusedSectionVars false
variable [T:Laid]
open Go.Shelf Go.RowKit Go.Lib Go.Proofs
section
variable {E:Env} {w w':World} {S:Nat → Prop} {β:Key → Option Nat} {keep keep':List Nat} {mv mv':List (Nat × Nat)} {ms:List Mode}
theorem A4T (t:List UInt8):strCells ⟨⟨t⟩⟩ = Lib.byteCells t:=by simp [strCells,Lib.byteCells]
theorem Bi7 (a b:List UInt8):Lib.byteCells a ++ Lib.byteCells b = Lib.byteCells (a ++ b):=by simp [Lib.byteCells]
def A79 (x:List UInt8 → List UInt8 → List UInt8) (bl:Nat → List UInt8) (count:Nat) (t:List UInt8):Nat → List UInt8
 | 0=>[]
 | k + 1=>A79 x bl count t k ++ x ((t.drop (64 * k)).take 64) (bl (count + k))
set_option maxHeartbeats 6400000 in
set_option maxRecDepth 100000 in
theorem A8V {k1 k2:List Nat} {m1 m2:List (Nat × Nat)} (hE:E.P = Tryz.prog) (x:List UInt8 → List UInt8 → List UInt8) (bl:Nat → List UInt8) (key nonce t:List UInt8) (count:Nat) (ht:t.length ≤ 1048576) (hc:count ≤ 1000000)
  (hst:∀ c:Nat,c ≤ 2000000 → Ao2 E ⟨[.ro .str,.ro .str,.ro (.int .i64)],1,.pair .str .unit,.sh,k1,m1⟩ 322 [⟨.str,key⟩,⟨.str,nonce⟩,⟨.int .i64,(c:Int)⟩] (bl c,()))
  (hx:∀ (a:List UInt8) (c:Nat),c ≤ 2000000 → a.length ≤ 64 → Ao2 E ⟨[.ro .str,.ro .str],1,.pair .str .unit,.sh,k2,m2⟩ 321 [⟨.str,a⟩,⟨.str,bl c⟩] (x a (bl c),()))
  (hxl:∀ (a:List UInt8) (c:Nat),c ≤ 2000000 → a.length ≤ 64 → (x a (bl c)).length ≤ 64):
  Ao2 E ⟨[.ro .str,.ro .str,.ro (.int .i64),.ro .str],1,.pair .str .unit,.sh,keep',mv'⟩ 273 [⟨.str,key⟩,⟨.str,nonce⟩,⟨.int .i64,(count:Int)⟩,⟨.str,t⟩] (A79 x bl count t ((t.length + 63) / 64),()):=by
 intro w S β cs hs ha
 match cs,ha with
 | [c1,c2,c3,c4],ha=>
  simp only [tH] at ha
  obtain ⟨_,v1,_,v2,_,v3,_,v4,_⟩:=ha
  simp only [Rd] at v1 v2 v3 v4
  subst v1 v2 v3 v4
  rw [hE]
  refine .inl ⟨Tryz.f273,Tryz.func273,by kernel_rfl,by kernel_rfl,?_⟩
  show Calls Tryz.prog 273 #[.string ⟨⟨key⟩⟩,.string ⟨⟨nonce⟩⟩,.int .i64 count,.string ⟨⟨t⟩⟩] w _
  have hs1:∀ (c:Nat),c ≤ 2000000 → ∀ wr,Below w.heap.size w wr → Calls Tryz.prog 322 #[.string ⟨⟨key⟩⟩,.string ⟨⟨nonce⟩⟩,.int .i64 c] wr fun e w'=>e = .returned (.string ⟨⟨bl c⟩⟩) ∧ Below wr.heap.size wr w':=fun c hc wr hb=>by
   have:=A59 (cs:=[[.string ⟨⟨key⟩⟩],[.string ⟨⟨nonce⟩⟩],[.int .i64 c]]) (hst c hc) (AX6 hs hb) ⟨rfl,by simp only [Rd],rfl,by simp only [Rd],rfl,by simp only [Rd],trivial⟩ (by rw [hE];exact enters_of Tryz.func322 (by kernel_rfl) rfl _ _)
   rw [hE] at this
   exact this
  have hs2:∀ (a:List UInt8) (c:Nat),c ≤ 2000000 → a.length ≤ 64 → ∀ wr,Below w.heap.size w wr → Calls Tryz.prog 321 #[.string ⟨⟨a⟩⟩,.string ⟨⟨bl c⟩⟩] wr fun e w'=>e = .returned (.string ⟨⟨x a (bl c)⟩⟩) ∧ Below wr.heap.size wr w':=fun a c hc hl wr hb=>by
   have:=A59 (cs:=[[.string ⟨⟨a⟩⟩],[.string ⟨⟨bl c⟩⟩]]) (hx a c hc hl) (AX6 hs hb) ⟨rfl,by simp only [Rd],rfl,by simp only [Rd],trivial⟩ (by rw [hE];exact enters_of Tryz.func321 (by kernel_rfl) rfl _ _)
   rw [hE] at this
   exact this
  have hxc:∀ k,count + k ≤ 2000000 → (A79 x bl count t k).length ≤ 64 * k:=fun k=>by
   induction k with
   | zero=>exact fun _=>Nat.le_refl _
   | succ k ih=>
    intro h
    have:=hxl ((t.drop (64 * k)).take 64) (count + k) (by omega) (by rw [List.length_take];omega)
    have:=ih (by omega)
    rw [A79,List.length_append];omega
  go_enter Tryz.func273,Tryz.ntmps273
  go_wp2
  go_loopw [10] (fun i wr=>∃ k:Nat,k ≤ (t.length + 63) / 64 ∧ i = .int .i64 ((64 * k:Nat):Int) ∧ Lib.IsBuilder 298 5 w.heap.size w.heap.size (Lib.byteCells (A79 x bl count t k)) wr ∧ Below w.heap.size w wr)
   (fun i _=>t.length + 64 - (RowKit.intOf i).toNat)
  case atStart=>exact ⟨0,Nat.zero_le _,rfl,Lib.fresh_isBuilder 298 5 w,(Below.refl _ w).alloc (Nat.le_refl _) _⟩
  case round=>
   obtain ⟨k,hk,rfl,hI,hnx⟩:=hrel
   by_cases hp:64 * k < t.length
   ·have hsl:(Instr.slice 9 (.string ⟨⟨t⟩⟩) (some (.int .i64 (64 * (k:Int)))) (some (.int .i64 (min (64 * (k:Int) + 64) (t.length:Int)))) none).run Tryz.prog wr = .ok (.string ⟨⟨(t.drop (64 * k)).take 64⟩⟩) wr:=by
     have hz:(⟨⟨t⟩⟩:ByteArray).size = t.length:=rfl
     rw [run_slice_string wr 9 ⟨⟨t⟩⟩ .i64 .i64 (64 * (k:Int)) (min (64 * (k:Int) + 64) (t.length:Int)) (by kernel_rfl) (by omega) (by omega) (by rw [hz];omega),show (64 * (k:Int)).toNat = 64 * k by omega]
     have he:=ByteArray.extract_mk t (64 * k) (min (64 * (k:Int) + 64) (t.length:Int)).toNat
     have hm:((t.drop (64 * k)).take ((min (64 * (k:Int) + 64) (t.length:Int)).toNat - 64 * k)) = (t.drop (64 * k)).take 64:=by
      rw [List.take_eq_take_min,List.take_eq_take_min (i:=64),List.length_drop]
      congr 1;omega
     rw [hm] at he
     exact congrArg (fun b=>Result.ok (Value.string b) wr) he
    have hdl:((t.drop (64 * k)).take 64).length ≤ 64:=by rw [List.length_take];omega
    go_wp2_with (go_at_call 322;refine (hs1 (count + k) (by omega) wr hnx).mono ?_)
    rintro e W1 ⟨rfl,hb1⟩
    have hn1:Below w.heap.size w W1:=hnx.trans (AX4 hb1 hnx.size)
    go_wp2_with (go_at_call 321;refine (hs2 ((t.drop (64 * k)).take 64) (count + k) (by omega) hdl W1 hn1).mono ?_)
    rintro e W2 ⟨rfl,hb2⟩
    have hI2:=A6b (A6b hI hb1) hb2
    have hn2:Below w.heap.size w W2:=hn1.trans (AX4 hb2 hn1.size)
    go_wp2_with (go_at_call 320;refine (Any.Builder_WriteString { Tryz.laysRep with } Tryz.extra w.heap.size w.heap.size _ ⟨⟨x ((t.drop (64 * k)).take 64) (bl (count + k))⟩⟩ W2 hI2 ?c1 hn2.size).mono ?_)
    case c1=>
     have:=hxl ((t.drop (64 * k)).take 64) (count + k) (by omega) hdl
     have:=hxc k (by omega)
     show _ + (x ((t.drop (64 * k)).take 64) (bl (count + k))).length ≤ _
     simp only [Lib.byteCells,List.length_map]
     omega
    rintro e W3 ⟨rfl,hI3,hb3⟩
    rw [A4T,Bi7] at hI3
    go_wp2
    go_roundw
    case rel=>exact ⟨k + 1,by omega,by go_num,.inr hI3,hn2.trans hb3⟩
    case measure=>simp [RowKit.intOf];omega
   ·have:k = (t.length + 63) / 64:=by omega
    subst this
    go_wp2_with (go_at_call 323;refine (Any.Builder_String_any { Tryz.laysRep with } Tryz.extra w.heap.size w.heap.size _ wr hI hnx.size).mono ?_)
    rintro e W2 ⟨rfl,hb2⟩
    go_wp2
    go_ret
    exact A1T (t:=A79 x bl count t ((t.length + 63) / 64)) hs (hnx.trans hb2) (by simp [AS1])
 | [],ha | [_],ha | [_,_],ha | [_,_,_],ha=>simp [tH] at ha
 | _ :: _ :: _ :: _ :: _ :: _,ha=>simp [tH] at ha
end
end Go.Rf

end
section
namespace Go.Rf
set_option linter.unusedSectionVars false
variable [T:Laid]
open Go.Shelf Go.RowKit Go.Lib Go.Proofs Go.Maps
theorem A6t {H:Type} {P:Program} {e:TypeId} (he:P.underlying e = some .bool) {v:Value} {z:DataW H × List MemPlace} (h:plainElem P e v = some z):∃ a,v = .bool a ∧ z = (.lit (.bool a),[]):=by
 unfold plainElem at h
 rw [he] at h
 cases v <;> simp at h
 exact ⟨_,rfl,h.symm⟩
theorem A90 {H:Type} {P:Program} {k t e:TypeId} {b n:Nat} {D:DataW H} {w:World} (h:w.ownsMap P k (plainElem P e) b n D) (K:Keyed P k) (ht:P.underlying t = some (.map k e)) (he:P.underlying e = some .bool) (hz:(zeroValue e).run P w = .ok (.bool false) w)
  {key:Value} {kl:Lit} (hkey:keyOf P k key = some kl):∃ c,(Instr.lookup t (.map (some b)) key false).run P w = .ok (.bool c) w ∧ D.atKey kl (.lit (.bool false)) = .lit (.bool c):=by
 obtain ⟨v,ps,hrun,hv⟩:=h.lookup K ht hz (plainElem_bool he false) hkey
 obtain ⟨c,rfl,hc⟩:=A6t he hv
 simp only [Prod.mk.injEq] at hc
 exact ⟨c,hrun,hc.1⟩
section
variable {E:Env} {w w':World} {S:Nat → Prop} {β:Key → Option Nat} {keep keep':List Nat} {mv mv':List (Nat × Nat)} {ms:List Mode}
theorem A3M {f:FuncId} {ds:List Dyn} {t:Bool} (h:Ao2 E ⟨ms,1,.pair .bool .unit,.sh,keep,mv⟩ f ds (t,())) {cs:List (List Value)} (hs:Sane w S (fun _=>none)) (ha:tH S (fun _=>none) w ms ds cs 0)
  (he:(callFunc f (yC ds cs).toArray).run E.P w = .ok (.enter f (yC ds cs).toArray) w):
  Calls E.P f (yC ds cs).toArray w fun e w'=>e = .returned (.bool t) ∧ Below w.heap.size w w':=by
 rcases h w S _ cs hs ha with ⟨fn,h1,h2,h3,h4⟩ | ⟨v,w',h1,_⟩
 ·refine h4.mono fun e w' he=>?_
  cases e with
  | returned v=>
   obtain ⟨S',β',crs,h5,h6,h7,h8,_⟩:=he
   match crs,h7 with
   | [c],h7=>
    simp only [oO] at h7
    have h9:=yQ.1 h7.1
    simp only [Rd] at h9
    subst h9
    refine ⟨by rw [h8];rfl,h6.out.os,h6.out.tape,h6.out.output,h6.size,fun k hk=>h6.old k hk fun _ e=>(by cases e)⟩
   | [],h7=>simp [oO] at h7
   | _ :: _ :: _,h7=>simp [oO] at h7
  | _=>exact he.elim
 ·rw [he] at h1;cases h1
theorem Aj7 (hs:Sane w S β) (h:Below w.heap.size w w') {t:Bool} {ax:List (List Value)} (hio:AS1 S β w' ms ax 0 .unit ()):
  Ret ⟨ms,1,.pair .bool .unit,.sh,keep,mv⟩ (t,()) ax w S β (.bool t) w':=by
 obtain ⟨h1,h2⟩:=Ab7 hs h
 refine ⟨S,β,[[.bool t]],h1,h2,?_,rfl,hio⟩
 simp only [oO]
 refine ⟨?_,trivial⟩
 refine yQ.2 ?_
 simp [Rd]
abbrev tO:Ty:=.pair (.sl (.int .i64)) (.pair (.sl (.pair (.int .i64) (.pair (.int .i64) (.pair (.int .i64) .unit)))) (.pair (.sl (.sl (.pair (.int .i64) (.pair (.int .i64) (.pair (.int .i64) .unit))))) .unit))
abbrev tE:Ty:=.pair (.sl (.int .i64)) (.pair tO .unit)
def BP1 {H:Type} (D:DataW H) (seen:List Int):Prop:=IsMap D ∧ ∀ x:Int,D.atKey (.int .i64 x) (.lit (.bool false)) = .lit (.bool (AQ2 seen x))
theorem BP1.put {H:Type} {D:DataW H} {seen:List Int} (h:BP1 D seen) (k:Int):BP1 (D.put (.int .i64 k) (.lit (.bool true))) (seen ++ [k]):=by
 refine ⟨?_,fun x=>?_⟩
 ·obtain ⟨es,rfl⟩:=h.1
  exact ⟨_,rfl⟩
 ·rw [AU5]
  by_cases hx:x = k
  ·subst hx
   rw [atKey_put_same h.1 (by simp [WideAt.IsKeyLit])]
   simp [AQ2]
  ·rw [atKey_put_other (fun e=>hx (by cases e;rfl)),h.2 x]
   have:AQ2 [k] x = false:=by simp [AQ2];exact fun e=>hx e.symm
   rw [this,Bool.or_false]
theorem Bn9 (w:World):(zeroValue 4).run Tryz.prog w = .ok (.bool false) w:=by kernel_rfl
theorem Bs8:Keyed Tryz.prog 3:=int_keyed Tryz.underlying3
theorem A82 (seen:List Int) (k:Int) (r:List Int):A3g seen (k :: r) = if k = 0 then A3g seen r else (inR k 1 9999 && !AQ2 seen k) && A3g (seen ++ [k]) r:=rfl
set_option maxHeartbeats 6400000 in
set_option maxRecDepth 100000 in
theorem Bj5 {k1 k2:List Nat} {m1 m2:List (Nat × Nat)} (hE:E.P = Tryz.prog) (e:TE) (hn:e.1.length ≤ 1048576)
  (hk:∀ x ∈ e.1,Ao2 E ⟨[.ro (.int .i64)],1,.pair .bool .unit,.sh,k1,m1⟩ 228 [⟨.int .i64,x⟩] (inR x 1 9999,()))
  (ho:Ao2 E ⟨[.ro tO],1,.pair .bool .unit,.sh,k2,m2⟩ 229 [⟨tO,e.2.1⟩] (Al6 e.2.1,())):
  Ao2 E ⟨[.ro tE],1,.pair .bool .unit,.sh,keep',mv'⟩ 162 [⟨tE,e⟩] (Aa9 e,()):=by
 intro w S β cs hs ha
 match cs,ha with
 | [c1],ha=>
  simp only [tH] at ha
  obtain ⟨_,hv,_⟩:=ha
  have hl:c1.length = 4:=sH hv
  match c1,hl,hv with
  | [vk,vp,vs,vb],_,hv=>
   have hv1:Rd S w (.sl (.int .i64)) e.1 [vk]:=hv.1
   have hv2:Rd S w tO e.2.1 [vp,vs,vb]:=hv.2.1
   have hvk:=hv1
   simp only [Rd] at hvk
   obtain ⟨ad,cap,hvk,hcap,hel⟩:=hvk
   have hvk:vk = .slice ad e.1.length cap:=(List.cons.inj hvk).1
   subst hvk
   have hcell:∀ i (x:Int),e.1[i]? = some x → ∃ b o,ad = some ⟨b,o,none⟩ ∧ b < w.heap.size ∧ w.cell? ⟨b,o + i,none⟩ = some (.int .i64 x):=fun i x hx=>by
    have hi:=(List.getElem?_eq_some_iff.1 hx).1
    rcases hel with h0 | ⟨b,o,cs,rfl,hS,⟨e',fz,hb⟩,hsz,hel⟩
    ·rw [h0] at hi;exact absurd hi (Nat.not_lt_zero _)
    ·have h1:=hel i x hx
     have hs1:(Ty.int IntKind.i64).size = 1:=rfl
     rw [hs1] at h1 hsz
     refine ⟨b,o,rfl,hs.liveS b hS,?_⟩
     have e2:w.cell? ⟨b,o + i,none⟩ = cs[o + i]?:=Lib.cell_of_heap hb (o + i)
     have e3:cs[o + i]? = some (.int .i64 x):=by
      have h2:=congrArg (fun l:List Value=>l[0]?) h1
      simp only [win,List.getElem?_take,List.getElem?_drop] at h2
      simpa using h2
     exact e2.trans e3
   rw [hE]
   refine .inl ⟨Tryz.f162,Tryz.func162,by kernel_rfl,by kernel_rfl,?_⟩
   show Calls Tryz.prog 162 #[.agg #[.slice ad e.1.length cap,vp,vs,vb]] w _
   have hkc:∀ (x:Int),x ∈ e.1 → ∀ wr,Below w.heap.size w wr → Calls Tryz.prog 228 #[.int .i64 x] wr fun ex w'=>ex = .returned (.bool (inR x 1 9999)) ∧ Below wr.heap.size wr w':=fun x hx wr hb=>by
    have:=A3M (cs:=[[.int .i64 x]]) (hk x hx) (AX6 hs hb) ⟨rfl,by simp only [Rd],trivial⟩ (by rw [hE];exact enters_of Tryz.func228 (by kernel_rfl) rfl _ _)
    rw [hE] at this
    exact this
   have hoc:∀ wr,Below w.heap.size w wr → Calls Tryz.prog 229 #[.agg #[vp,vs,vb]] wr fun ex w'=>ex = .returned (.bool (Al6 e.2.1)) ∧ Below wr.heap.size wr w':=fun wr hb=>by
    have:=A3M (cs:=[[vp,vs,vb]]) ho (AX6 hs hb) ⟨rfl,zQ (fun b hS=>⟨hS,hb.block b (hs.liveS b hS)⟩) hv2,trivial⟩ (by rw [hE];exact enters_of Tryz.func229 (by kernel_rfl) rfl _ _)
    rw [hE] at this
    exact this
   have hmm:=@run_makeMap Tryz.prog
   go_enter Tryz.func162,Tryz.ntmps162
   go_wp2
   obtain ⟨BX,hBX⟩:∃ BX,BX = Obj.cells #[.slice ad e.1.length cap,vp,vs,vb] 125:=⟨_,rfl⟩
   go_loopw [10] (fun i wr=>∃ (k:Nat) (seen:List Int) (D:DataW Unit),k ≤ e.1.length ∧ i = .int .i64 k ∧ wr.ownsMap Tryz.prog 3 (plainElem Tryz.prog 4) (w.heap.size + 1) k D ∧ BP1 D seen ∧ A3g [] e.1 = A3g seen (e.1.drop k) ∧ Below w.heap.size w wr ∧ wr.heap[w.heap.size]? = some BX)
    (fun i _=>e.1.length - (RowKit.intOf i).toNat)
   case atStart=>
    refine ⟨0,[],.map [],Nat.zero_le _,rfl,?_,⟨isMap_empty,fun x=>rfl⟩,by rw [List.drop_zero],((Below.refl _ w).alloc (Nat.le_refl _) _).alloc (by show _ ≤ (w.heap.push _).size;rw [Array.size_push];omega) _,?_⟩
    have:=World.ownsMap_made (H:=Unit) (w.alloc (Obj.cells #[.slice ad e.1.length cap,vp,vs,vb] 125)) Tryz.prog 3 (plainElem Tryz.prog 4)
    ·rw [show (w.alloc (Obj.cells #[.slice ad e.1.length cap,vp,vs,vb] 125)).heap.size = w.heap.size + 1 by show (w.heap.push _).size = _;rw [Array.size_push]] at this
     exact this
    ·rw [hBX];show ((w.heap.push _).push _)[w.heap.size]? = _
     rw [Array.getElem?_push,if_neg (by rw [Array.size_push];omega),Array.getElem?_push,if_pos rfl]
   case round=>
    obtain ⟨k,seen,D,hk,rfl,hown,hset,hkey,hnx,hbx⟩:=hrel
    by_cases hp:k < e.1.length
    ·have hx:e.1[k]? = some e.1[k]:=List.getElem?_eq_getElem hp
     obtain ⟨b,o,rfl,hb,hcl⟩:=hcell k _ hx
     have hcl':wr.cell? ⟨b,o + k,none⟩ = some (.int .i64 e.1[k]):=by rw [hnx.cell (p:=⟨b,o + k,none⟩) hb];exact hcl
     have hmem:e.1[k] ∈ e.1:=List.getElem_mem hp
     have hdr:e.1.drop k = e.1[k] :: e.1.drop (k + 1):=List.drop_eq_getElem_cons hp
     rw [hdr] at hkey
     generalize e.1[k] = x at hx hcl hcl' hmem hkey
     rw [A82] at hkey
     by_cases h0:x = 0
     ·subst h0
      rw [if_pos rfl] at hkey
      go_wp2
      go_roundw
      case rel=>exact ⟨k + 1,seen,D,by omega,by go_num,hown.mono (Nat.le_succ _),hset,hkey,hnx,hbx⟩
      case measure=>simp [RowKit.intOf];omega
     ·rw [if_neg h0] at hkey
      cases hr:inR x 1 9999 with
      | false=>
       go_wp2_with (go_at_call 228;refine (hkc x hmem wr hnx).mono ?_)
       rw [hr]
       rintro ex W1 ⟨rfl,hb1⟩
       go_wp2
       go_ret
       rw [hr] at hkey
       have he:Aa9 e = false:=by unfold Aa9;rw [hkey];rfl
       rw [he]
       exact Aj7 hs (hnx.trans (AX4 hb1 hnx.size)) (by simp [AS1])
      | true=>
       go_wp2_with (go_at_call 228;refine (hkc x hmem wr hnx).mono ?_)
       rw [hr]
       rintro ex W1 ⟨rfl,hb1⟩
       have hn1:Below w.heap.size w W1:=hnx.trans (AX4 hb1 hnx.size)
       have hown1:W1.ownsMap Tryz.prog 3 (plainElem Tryz.prog 4) (w.heap.size + 1) k D:=hown.kept (row:=none) ⟨hb1.os,hb1.tape,hb1.output,hb1.size,fun k hk _=>hb1.block k hk⟩ (by simp)
       have hbx1:W1.heap[w.heap.size]? = some BX:=by rw [hb1.block _ (Array.getElem?_eq_some_iff.1 hbx).1];exact hbx
       have hkl:keyOf Tryz.prog 3 (.int .i64 x) = some (.int .i64 x):=keyOf_int_mk Tryz.underlying3 (WalkArith.wf_i64 (by unfold inR at hr;simp only [Bool.and_eq_true,decide_eq_true_eq] at hr;omega))
       obtain ⟨c,hrun,hat⟩:=A90 hown1 Bs8 Tryz.underlying241 Tryz.underlying4 (Bn9 _) hkl
       rw [hset.2 x] at hat
       have hc:c = AQ2 seen x:=by cases hat;rfl
       rw [hc] at hrun
       rw [hr] at hkey
       cases hh:AQ2 seen x with
       | true=>
        rw [hh] at hrun hkey
        go_wp2
        go_ret
        have he:Aa9 e = false:=by unfold Aa9;rw [hkey];rfl
        rw [he]
        exact Aj7 hs hn1 (by simp [AS1])
       | false=>
        rw [hh] at hrun hkey
        go_wp2_with (first | (at_mapUpdate;refine wpList_mapUpdate_own _ rfl _ _ _ 241 rfl 3 4 Bs8 Tryz.underlying241 _ (w.heap.size + 1) k _ rfl hown1 (by unfold maxLen;omega) _ _ _ rfl rfl hkl _ [] (plainElem_bool Tryz.underlying4 true) ?_;intro w1 hown2 hgrow1) | go_in)
        go_roundw
        case rel=>exact ⟨k + 1,seen ++ [x],_,by omega,by go_num,hown2,hset.put x,by simpa using hkey,hn1.grown hgrow1 hn1.size (fun j hj=>by cases hj;omega),by rw [hgrow1.block _ (Array.getElem?_eq_some_iff.1 hbx1).1 (by simp)];exact hbx1⟩
        case measure=>simp [RowKit.intOf];omega
    ·have hke:k = e.1.length:=by omega
     subst hke
     rw [List.drop_length] at hkey
     have hkey:A3g [] e.1 = true:=hkey
     rw [hBX] at hbx
     have hc0:wr.cell? ⟨w.heap.size,0,none⟩ = some (.slice ad e.1.length cap):=Lib.cell_of_heap hbx 0
     have hc1:wr.cell? ⟨w.heap.size,1,none⟩ = some vp:=Lib.cell_of_heap hbx 1
     have hc2:wr.cell? ⟨w.heap.size,2,none⟩ = some vs:=Lib.cell_of_heap hbx 2
     have hc3:wr.cell? ⟨w.heap.size,3,none⟩ = some vb:=Lib.cell_of_heap hbx 3
     go_wp2_with (go_at_call 229;refine (hoc wr hnx).mono ?_)
     ·rename_i h11 _ _
      have h11:e.1.length = 11:=Int.ofNat.inj h11
      have he:Aa9 e = Al6 e.2.1:=by unfold Aa9;rw [hkey,decide_eq_true h11];rfl
      rintro ex W1 ⟨rfl,hb1⟩
      go_wp2
      go_ret
      rw [he]
      exact Aj7 hs (hnx.trans (AX4 hb1 hnx.size)) (by simp [AS1])
     ·rename_i h11
      have h11:¬ e.1.length = 11:=fun h=>h11 (congrArg Int.ofNat h)
      have he:Aa9 e = false:=by unfold Aa9;rw [hkey,decide_eq_false h11];rfl
      go_ret
      rw [he]
      exact Aj7 hs hnx (by simp [AS1])
 | [],ha=>simp [tH] at ha
 | _ :: _ :: _,ha=>simp [tH] at ha
end
end Go.Rf

end
section
namespace Go.Rf
set_option linter.unusedSectionVars false
variable [T:Laid]
open Go.Shelf Go.RowKit Go.Lib Go.Proofs
section
variable {P:Program} {ρ:Ren}
theorem Ad7 {b:Nat} {e:TypeId} {fz:Nat × Nat}:∀ {vs:List Value} {o:Nat} {w:World} {cs:Array Value},w.heap[b]? = some (.cells cs e fz) → o + vs.length ≤ cs.size →
  ∃ cs',(w.setCells b o vs).heap[b]? = some (.cells cs' e fz) ∧ cs'.toList = gQ cs.toList o vs ∧ (∀ b',b' ≠ b → (w.setCells b o vs).heap[b']? = w.heap[b']?) ∧ (w.setCells b o vs).heap.size = w.heap.size ∧ SameOut w (w.setCells b o vs)
 | [],o,w,cs,hb,_=>⟨cs,hb,by simp [gQ],fun _ _=>rfl,rfl,.rfl'⟩
 | v :: vs,o,w,cs,hb,ho=>by
  simp only [List.length_cons] at ho
  have h1:(w.setCell ⟨b,o,none⟩ v).heap[b]? = some (.cells (cs.setIfInBounds o v) e fz):=by
   simp only [World.setCell,Array.getElem?_modify,if_true,hb]
   simp
  have h2:∀ b',b' ≠ b → (w.setCell ⟨b,o,none⟩ v).heap[b']? = w.heap[b']?:=fun b' hb'=>by
   simp only [World.setCell,Array.getElem?_modify]
   rw [if_neg (Ne.symm hb')]
  have h3:(w.setCell ⟨b,o,none⟩ v).heap.size = w.heap.size:=by simp [World.setCell]
  have h4:SameOut w (w.setCell ⟨b,o,none⟩ v):=⟨rfl,rfl,rfl⟩
  obtain ⟨cs',k1,k2,k3,k4,k5⟩:=Ad7 (vs:=vs) (o:=o + 1) (w:=w.setCell ⟨b,o,none⟩ v) h1 (by rw [Array.size_setIfInBounds];omega)
  refine ⟨cs',k1,?_,fun b' hb'=>(k3 b' hb').trans (h2 b' hb'),k4.trans h3,h4.trans k5⟩
  rw [k2,Array.toList_setIfInBounds]
  apply List.ext_getElem?
  intro k
  rw [mO (by simp;omega),mO (by simp;omega),List.getElem?_set]
  by_cases h1:k < o
  ·rw [if_pos (by omega),if_neg (by omega),if_pos h1]
  ·rw [if_neg h1]
   by_cases h2:k = o
   ·subst h2
    rw [if_pos (by omega),if_pos rfl,if_pos (by simp;omega),if_pos (by simp)]
    simp
   ·rw [if_neg (by omega)]
    have e:k - o = (k - (o + 1)) + 1:=by omega
    rw [e,List.getElem?_cons_succ,List.length_cons]
    by_cases h3:k < o + 1 + vs.length
    ·rw [if_pos h3,if_pos (by omega)]
    ·rw [if_neg h3,if_neg (by omega),if_neg (by omega)]
end
end Go.Rf

end
section
namespace Go.Rf
set_option linter.unusedSectionVars false
variable [T:Laid]
open Go.Shelf Go.RowKit Go.Lib Go.Proofs
section
variable {P:Program} {ρ:Ren} {i0:TypeInfo} {zr:Value} {k:Nat}
end
end Go.Rf

end
section
namespace Go.Rf
set_option linter.unusedSectionVars false
variable [T:Laid]
open Go.Shelf Go.RowKit Go.Lib Go.Proofs
section
variable {P:Program} {S S':Nat → Prop} {β:Key → Option Nat} {H:Nat → Option (List Value)} {w w':World} {τ:Ty}
theorem Elems.flat (hf:A1d τ = true) {ys:List τ.D} {cy:List Value} (h:Elems S w τ ys cy):Elems S' w' τ ys cy:=⟨h.len,h.one,fun j v hv=>aD hf (h.get j v hv)⟩
theorem Elems.take {ys:List τ.D} {cy:List Value} (h:Elems S w τ ys cy) {i:Nat} (hi:i ≤ ys.length):Elems S w τ (ys.take i) (cy.take (i * τ.size)):=by
 have hle:i * τ.size ≤ ys.length * τ.size:=Nat.mul_le_mul_right _ hi
 refine .of (by rw [List.length_take,List.length_take,h.len,Nat.min_eq_left hle,Nat.min_eq_left hi]) fun j v hv=>?_
 unfold nth at hv
 rw [List.getElem?_take] at hv
 split at hv
 ·rename_i hj
  have hlt:(j + 1) * τ.size ≤ i * τ.size:=Nat.mul_le_mul_right _ hj
  rw [Nat.add_mul,Nat.one_mul] at hlt
  have e:win (cy.take (i * τ.size)) (j * τ.size) τ.size = win cy (j * τ.size) τ.size:=by
   apply List.ext_getElem?
   intro t
   rw [tR,tR]
   split
   ·rw [List.getElem?_take,if_pos (by omega)]
   ·rfl
  rw [e];exact h.get j v hv
 ·cases hv
theorem Elems.drop {ys:List τ.D} {cy:List Value} (h:Elems S w τ ys cy) (i:Nat):Elems S w τ (ys.drop i) (cy.drop (i * τ.size)):=by
 refine .of (by rw [List.length_drop,List.length_drop,h.len,Nat.sub_mul]) fun j v hv=>?_
 unfold nth at hv
 rw [List.getElem?_drop] at hv
 have:=h.get (i + j) v hv
 have e:win (cy.drop (i * τ.size)) (j * τ.size) τ.size = win cy ((i + j) * τ.size) τ.size:=by
  apply List.ext_getElem?
  intro t
  rw [tR,tR,List.getElem?_drop,Nat.add_mul,Nat.add_assoc]
 rw [e];exact this
theorem Elems.append {xs ys:List τ.D} {cx cy:List Value} (hx:Elems S w τ xs cx) (hy:Elems S w τ ys cy):Elems S w τ (xs ++ ys:List τ.D) (cx ++ cy):=by
 refine .of (by rw [List.length_append,List.length_append,hx.len,hy.len,Nat.add_mul]) fun j v hv=>?_
 rcases bB hv with ⟨h1,h2⟩ | ⟨h1,h2⟩
 ·have hlt:(j + 1) * τ.size ≤ xs.length * τ.size:=Nat.mul_le_mul_right _ h1
  rw [Nat.add_mul,Nat.one_mul] at hlt
  have e:win (cx ++ cy) (j * τ.size) τ.size = win cx (j * τ.size) τ.size:=by
   apply List.ext_getElem?
   intro t
   rw [tR,tR]
   split
   ·rw [List.getElem?_append_left (by rw [hx.len];omega)]
   ·rfl
  rw [e];exact hx.get j v h2
 ·have hle:xs.length * τ.size ≤ j * τ.size:=Nat.mul_le_mul_right _ h1
  have e:win (cx ++ cy) (j * τ.size) τ.size = win cy ((j - xs.length) * τ.size) τ.size:=by
   apply List.ext_getElem?
   intro t
   rw [tR,tR,List.getElem?_append_right (by rw [hx.len];omega),hx.len,Nat.sub_mul]
   split
   ·congr 1;omega
   ·rfl
  rw [e];exact hy.get _ v h2
theorem Bj0 {c d:List Value} {o n:Nat} (hd:d.length = n) (h:∀ t,t < n → c[o + t]? = d[t]?):win c o n = d:=by
 apply List.ext_getElem?
 intro t
 rw [tR]
 split
 ·exact h t (by assumption)
 ·rw [List.getElem?_eq_none (by omega)]
theorem BI3 {key:Key} {xs:List τ.D} {c:List Value} (h:zP S β H w key (.sl τ) (.own .sh) xs c):
  ∃ ad cap,c = [.slice ad xs.length cap] ∧ xs.length ≤ cap ∧ (cap = 0 ∨ ∃ b o cs,ad = some ⟨b,o,none⟩ ∧ β key = some b ∧ AE4 (Bj3 τ) w b cs ∧ o + cap * τ.size ≤ cs.size ∧ Elems S w τ xs (win cs.toList o (xs.length * τ.size))):=by
 simp only [zP,Fl.base] at h
 obtain ⟨_,ad,cap,rfl,hl,h⟩:=h
 refine ⟨ad,cap,rfl,hl,h.imp id ?_⟩
 rintro ⟨b,o,cs,rfl,hk,hB,hz,hel⟩
 have hle:xs.length * τ.size ≤ cap * τ.size:=Nat.mul_le_mul_right _ hl
 refine ⟨b,o,cs,rfl,hk,hB,hz,.of (mD (by rw [Array.length_toList];exact Nat.le_trans (Nat.add_le_add_left hle o) hz)) fun j v hv=>?_⟩
 have hj:j < List.length xs:=by unfold nth at hv;exact (List.getElem?_eq_some_iff.1 hv).1
 have hlt:(j + 1) * τ.size ≤ List.length xs * τ.size:=Nat.mul_le_mul_right _ hj
 rw [Nat.add_mul,Nat.one_mul] at hlt
 rw [qV (by omega)]
 have:=hel j v hv
 rw [yQ] at this
 exact this
theorem BR7 {key:Key} {xs:List τ.D} {cx:List Value} {b o cap:Nat} {cs:Array Value} (hl:xs.length ≤ cap) (hk:β key = some b) (hB:AE4 (Bj3 τ) w b cs) (hz:o + cap * τ.size ≤ cs.size) (hx:Elems S w τ xs cx) (hw:win cs.toList o (xs.length * τ.size) = cx):
  zP S β H w key (.sl τ) (.own .sh) xs [.slice (some ⟨b,o,none⟩) xs.length cap]:=by
 simp only [zP,Fl.base]
 refine ⟨by simp [nG,Fl.pins],some ⟨b,o,none⟩,cap,rfl,hl,.inr ⟨b,o,cs,rfl,hk,hB,hz,fun j v hv=>?_⟩⟩
 have hj:j < List.length xs:=by unfold nth at hv;exact (List.getElem?_eq_some_iff.1 hv).1
 have hlt:(j + 1) * τ.size ≤ List.length xs * τ.size:=Nat.mul_le_mul_right _ hj
 rw [Nat.add_mul,Nat.one_mul] at hlt
 rw [yQ,← qV (o:=o) (n:=xs.length * τ.size) (by omega),hw]
 exact hx.get j v hv
theorem A0D {q:Bool} {b o:Nat} {cs:Array Value} (hB:AE4 q w b cs) (ho:o < cs.size):w.frozen? ⟨b,o,none⟩ = false:=by
 obtain ⟨e,fz,hb,hf,_⟩:=hB
 have:=hf o ho
 simp only [World.frozen?,hb]
 simp only [Bool.and_eq_false_iff,decide_eq_false_iff_not]
 by_cases h:fz.1 ≤ o
 ·right;intro h2;exact this ⟨h,h2⟩
 ·left;exact h
end
section
variable {E:Env} {ρ:Ren} {i0:TypeInfo} {zr:Value} {τ:Ty}
end
section
variable {E:Env} {ρ:Ren} {i0:TypeInfo} {zr:Value} {τ:Ty} {w w':World} {S:Nat → Prop} {β:Key → Option Nat} {keep:List Nat} {mv:List (Nat × Nat)} {ms:List Mode} {ax:List (List Value)}
theorem BW6 (hs:Sane w S β) {cap:Nat} {cs':Array Value} {eb:TypeId}
  (h':w'.heap[w.heap.size]? = some (.cells cs' eb (0,0))) (hoth:∀ b',b' < w.heap.size → w'.heap[b']? = w.heap[b']?) (hsize:w'.heap.size = w.heap.size + 1) (hout:SameOut w w')
  {xs:List τ.D} {cx:List Value} (hl:xs.length ≤ cap) (hz:cap * τ.size ≤ cs'.size) (hx:Elems S w' τ xs cx) (hw:win cs'.toList 0 (xs.length * τ.size) = cx) (hio:∀ β',AS1 S β' w' ms ax 0 .unit ()):
  Ret ⟨ms,1,.pair (.sl τ) .unit,.pr (.own .sh) .sh,keep,mv⟩ (xs,()) ax w S β (.slice (some ⟨w.heap.size,0,none⟩) xs.length cap) w':=by
 refine ⟨S,fun k=>if k = [0] then some w.heap.size else none,[[.slice (some ⟨w.heap.size,0,none⟩) xs.length cap]],⟨?_,?_,?_,fun b hb=>by rw [hsize];exact Nat.lt_succ_of_lt (hs.liveS b hb),hs.tabs fun b' hb'=>⟨hb',hoth b' (hs.liveS b' hb')⟩⟩,
  ⟨by omega,fun b' hb' _=>hoth b' hb',?_,fun _ h=>h,fun _ h=>.inl h,hout⟩,?_,rfl,hio _⟩
 ·intro k k' b h1 h2
  split at h1 <;> split at h2 <;> simp_all
 ·intro k b h1 h2
  split at h1 <;> simp at h1
  have:=hs.liveS b h2
  omega
 ·intro k b h1
  split at h1 <;> simp at h1
  omega
 ·intro k b h1
  split at h1 <;> simp at h1
  exact .inr (by omega)
 ·simp only [oO]
  exact ⟨BR7 hl (by simp) ⟨eb,(0,0),h',fun _ _=>by simp,.inr rfl⟩ (by omega) hx hw,trivial⟩
end
theorem A6l {w:World} {b o:Nat} {cs:Array Value} (hB:Blk w b cs) (h:o < cs.size):(w.cell? ⟨b,o,none⟩).isSome = true:=by
 rw [A07 hB (v:=cs[o]) (by rw [Array.getElem?_toList,Array.getElem?_eq_getElem h])];rfl
theorem A8L {zr:Value} {k n:Nat} (h:zr.cells.size = k):(Builtin.zeroCells zr.cells n).size = n * k:=by simp [Builtin.zeroCells,h]
theorem Bq6 (w:World) (o:Obj):(w.alloc o).heap[w.heap.size]? = some o:=by
 show (w.heap.push o)[w.heap.size]? = some o
 simp
theorem Bb2 (w:World) (o:Obj):(w.alloc o).heap.size = w.heap.size + 1:=by
 show (w.heap.push o).size = _
 simp
section
variable {E:Env} {ρ:Ren} {i0:TypeInfo} {zr:Value} {τ:Ty}
end
end Go.Rf

end
section
namespace Go.Rf
set_option maxRecDepth 100000
open Go.Shelf Go.RowKit Go.Lib Go.Proofs
end Go.Rf

end
section
namespace Go.Rf
set_option linter.unusedSectionVars false
variable [T:Laid]
open Go.Shelf Go.RowKit Go.Lib Go.Proofs Go.Sort
def rG:Ren:=⟨fun _=>340,fun | 22=>120 | 25=>253 | n=>n,fun n=>n⟩
theorem Bs1:Lays8.n4 Tryz.prog rG where
 mixed:=by kernel_rfl
 f4:=⟨Tryz.f340.name,by kernel_rfl,Tryz.func340.trans (congrArg some (by kernel_rfl))⟩
 t0:=Tryz.underlying0
 a0:=Tryz.isAgg0
 z0:=Tryz.sizeOf0
 v0:=Tryz.zeroValue0
 t3:=Tryz.underlying3
 a3:=Tryz.isAgg3
 z3:=Tryz.sizeOf3
 v3:=Tryz.zeroValue3
 t4:=Tryz.underlying4
 a4:=Tryz.isAgg4
 z4:=Tryz.sizeOf4
 v4:=Tryz.zeroValue4
 t9:=Tryz.underlying9
 a9:=Tryz.isAgg9
 z9:=Tryz.sizeOf9
 v9:=Tryz.zeroValue9
 t20:=Tryz.underlying20
 a20:=Tryz.isAgg20
 z20:=Tryz.sizeOf20
 v20:=Tryz.zeroValue20
 t22:=Tryz.underlying120
 a22:=Tryz.isAgg120
 z22:=Tryz.sizeOf120
 v22:=Tryz.zeroValue120
def rV:Ren:=⟨fun _=>366,fun | 28=>22 | n=>n,fun n=>n⟩
theorem Br9:Lays.n112 Tryz.prog rV where
 mixed:=by kernel_rfl
 f112:=Tryz.func366.trans (congrArg some (by kernel_rfl))
 t0:=Tryz.underlying0
 a0:=Tryz.isAgg0
 z0:=Tryz.sizeOf0
 v0:=Tryz.zeroValue0
 t3:=Tryz.underlying3
 a3:=Tryz.isAgg3
 z3:=Tryz.sizeOf3
 v3:=Tryz.zeroValue3
 t4:=Tryz.underlying4
 a4:=Tryz.isAgg4
 z4:=Tryz.sizeOf4
 v4:=Tryz.zeroValue4
 t28:=Tryz.underlying22
 a28:=Tryz.isAgg22
 z28:=Tryz.sizeOf22
 v28:=Tryz.zeroValue22
theorem AP1 {P:Program} (w:World) {ops:Array Oper} {rest:List Oper} {o:Oper} {a:Act} {Q:Exit → Act → World → Prop}
  (hg:o.guard = none) (s x:Operand) (t tx:TypeId) (hop:o.op = Op.call { callee:=Callee.builtin Builtin.append,args:=#[s,x],argTypes:=#[t,tx] })
  (sv xv:Value) (hs:a.eval s = sv) (hx:a.eval x = xv) (rv:Value) (w':World) (hrun:∀ ty,(Builtin.append_ #[t,tx] ty #[sv,xv]).run P w = .ok rv w')
  (hK:wpList P ops Q rest (a.put o.dst rv) w'):wpList P ops Q (o :: rest) a w:=by
 refine wpList_plain hg fun K hK'=>?_
 have hrun:=hrun o.type
 unfold Oper.wp
 simp [execOp,hop,resolve,invoke,builtin,hs,hx,hrun,Result.andThen]
 exact hK' _ _ hK
theorem BW4 {α:Type} [Inhabited α] {enc:α → Value} {w:World} {b o:Nat} {d:Array α} {cs:Array Value} {e:TypeId} {fz:Nat × Nat} (hb:w.heap[b]? = some (.cells cs e fz)):
  (putRow enc w b o d).heap[b]? = some (.cells (putCells enc o d cs) e fz) ∧ (∀ b',b' ≠ b → (putRow enc w b o d).heap[b']? = w.heap[b']?) ∧ (putRow enc w b o d).heap.size = w.heap.size ∧ SameOut w (putRow enc w b o d):=by
 unfold putRow mapBlock
 refine ⟨?_,fun b' h=>?_,?_,⟨rfl,rfl,rfl⟩⟩
 ·simp only [Array.getElem?_modify,if_true,hb];rfl
 ·simp only [Array.getElem?_modify];rw [if_neg (Ne.symm h)]
 ·simp
section
variable {E:Env} {w w':World} {S:Nat → Prop} {β:Key → Option Nat} {keep:List Nat} {mv:List (Nat × Nat)}
abbrev tB3:Ty:=.pair (.int .i64) (.pair (.int .i64) (.pair (.int .i64) .unit))
def Ai4 (l:List (List tB3.D)) (k:Nat):Nat:=(l.take k).flatten.length
theorem A6Y {t:Ty} {x:List t.D} {c:List Value}:Rd S w (.sl t) x c ↔ ∃ ad cap,c = [.slice ad (List.length x) cap] ∧ List.length x ≤ cap ∧
   (x = ([]:List t.D) ∨ ∃ b o cs,ad = some ⟨b,o,none⟩ ∧ S b ∧ Blk w b cs ∧ o + List.length x * t.size ≤ cs.size ∧
    ∀ (i:Nat) (y:t.D),nth x i = some y → Rd S w t y (win cs.toList (o + i * t.size) t.size)):=Iff.rfl
theorem A1t {l:List (List tB3.D)} {k:Nat} (h:k < l.length):Ai4 l (k + 1) = Ai4 l k + l[k].length:=by
 unfold Ai4
 rw [List.take_add_one,List.getElem?_eq_getElem h,Option.toList_some,List.flatten_append,List.length_append]
 simp
theorem A9C (l:List (List tB3.D)) (k:Nat):Ai4 l k ≤ l.flatten.length:=by
 unfold Ai4
 have h:=congrArg (fun l:List (List tB3.D)=>l.flatten.length) (List.take_append_drop k l)
 simp only [List.flatten_append,List.length_append] at h
 omega
def Bn6 (S:Nat → Prop) (w:World) (B:Nat) (l:List (List tB3.D)) (k:Nat) (s:Value) (wr:World):Prop:=
 (l.flatten.length = 0 ∧ s = .slice none 0 0) ∨
 ∃ cap cs,s = .slice (some ⟨B,0,none⟩) (Ai4 l k) cap ∧ l.flatten.length ≤ cap ∧ wr.heap[B]? = some (.cells cs 253 (0,0)) ∧ cs.size = cap * 3 ∧ wr.heap.size = B + 1 ∧ Elems S w tB3 (l.take k).flatten (win cs.toList 0 (Ai4 l k * 3))
set_option maxHeartbeats 6400000 in
set_option maxRecDepth 100000 in
theorem A9h (hE:E.P = Tryz.prog) (l:List (List tB3.D)) (hn:l.length ≤ 1048576) (hf:l.flatten.length ≤ 1048576):
  Ao2 E ⟨[.ro (.sl (.sl tB3))],1,.pair (.sl tB3) .unit,.pr (.own .sh) .sh,keep,mv⟩ 303 [⟨.sl (.sl tB3),l⟩] ((l.flatten:List tB3.D),()):=by
 intro w S β cs hs ha
 match cs,ha with
 | [c1],ha=>
  simp only [tH] at ha
  obtain ⟨_,hv,_⟩:=ha
  have h3:tB3.size = 3:=rfl
  have h1:(Ty.sl tB3).size = 1:=rfl
  obtain ⟨ad,cap,rfl,hcap,hel⟩:=A6Y.1 hv
  have hcell:∀ i (x:List tB3.D),l[i]? = some x → ∃ b o a' c',ad = some ⟨b,o,none⟩ ∧ b < w.heap.size ∧ w.cell? ⟨b,o + i,none⟩ = some (.slice a' x.length c') ∧ x.length ≤ c' ∧ (a' = none → x = []) ∧
    ∃ news,Elems S w tB3 x news ∧ ∀ wr,Below w.heap.size w wr → Src Tryz.prog 3 120 (.slice a' x.length c') x.length news wr:=fun i x hx=>by
   have hi:=(List.getElem?_eq_some_iff.1 hx).1
   rcases hel with h0 | ⟨b,o,cs,rfl,hS,⟨e',fz,hb⟩,hsz,hel⟩
   ·rw [h0] at hi;exact absurd hi (Nat.not_lt_zero _)
   ·have h4:=hel i x hx
    rw [h1] at h4 hsz
    obtain ⟨a',c',h5,hle,h6⟩:=A6Y.1 h4
    have e2:w.cell? ⟨b,o + i,none⟩ = cs[o + i]?:=Lib.cell_of_heap hb (o + i)
    have e3:cs[o + i]? = some (.slice a' x.length c'):=by
     have h2:=congrArg (fun l:List Value=>l[0]?) h5
     simp only [win,List.getElem?_take,List.getElem?_drop] at h2
     simpa using h2
    refine ⟨b,o,a',c',rfl,hs.liveS b hS,e2.trans e3,hle,fun ha=>?_,?_⟩
    ·rcases h6 with h6 | ⟨_,_,_,h6,_⟩
     ·exact h6
     ·rw [ha] at h6;cases h6
    ·by_cases hx0:x = []
     ·subst hx0
      refine ⟨[],.nil,fun wr hb=>?_⟩
      cases a' with
      | none=>exact Src.ofNil wr Tryz.underlying120 c'
      | some a=>exact Src.ofSlice wr Tryz.underlying120 a 0 c' [] rfl (fun j u hj=>by simp at hj) (fun _ h=>by cases h)
     ·rcases h6 with h6 | ⟨b2,o2,cs2,rfl,hS2,hB2,hz2,he2⟩
      ·exact absurd h6 hx0
      ·rw [h3] at hz2
       have hE2:Elems S w tB3 x (win cs2.toList o2 (x.length * 3)):=by
        refine .of (mD (by rw [Array.length_toList];exact hz2)) fun j v hv=>?_
        have hj:j < List.length x:=by unfold nth at hv;exact (List.getElem?_eq_some_iff.1 hv).1
        have hlt:(j + 1) * 3 ≤ List.length x * 3:=Nat.mul_le_mul_right _ hj
        rw [Nat.add_mul,Nat.one_mul] at hlt
        show Rd S w tB3 v (win (win cs2.toList o2 (x.length * 3)) (j * 3) 3)
        rw [qV (by omega)]
        exact he2 j v hv
       refine ⟨_,hE2,fun wr hb=>Src.ofSlice wr Tryz.underlying120 _ _ _ _ (by rw [mD (by rw [Array.length_toList];exact hz2)]) (fun j u hj=>?_) hE2.one⟩
       rw [Addr.add_lit]
       rw [tR] at hj
       split at hj
       ·rw [hb.cell (p:=⟨b2,o2 + j,none⟩) (hs.liveS b2 hS2)]
        exact A07 hB2 hj
       ·cases hj
  rw [hE]
  refine .inl ⟨Tryz.f303,Tryz.func303,by kernel_rfl,by kernel_rfl,?_⟩
  show Calls Tryz.prog 303 #[.slice ad l.length cap] w _
  have hi0:Tryz.prog.info? 253 = some (Tryz.prog.info? 253).get!:=by kernel_rfl
  have hz0:(Tryz.prog.info? 253).get!.zero = some ((Tryz.prog.info? 253).get!.zero).get!:=by kernel_rfl
  have hs3:(Tryz.prog.info? 253).get!.size = 3:=by kernel_rfl
  have hb24:(Tryz.prog.info? 253).get!.bytes = 24:=by kernel_rfl
  have hzc:((Tryz.prog.info? 253).get!.zero).get!.cells.size = 3:=by kernel_rfl
  generalize (Tryz.prog.info? 253).get! = i0 at hi0 hz0 hs3 hb24 hzc
  generalize (i0.zero).get! = z at hz0 hzc
  go_enter Tryz.func303,Tryz.ntmps303
  go_wp2
  go_loopw [3,11] (fun s i wr=>∃ k:Nat,k ≤ l.length ∧ i = .int .i64 k ∧ s = .int .i64 (Ai4 l k:Nat) ∧ wr = w)
   (fun _ i _=>l.length - (RowKit.intOf i).toNat)
  case atStart=>exact ⟨0,Nat.zero_le _,rfl,rfl,rfl⟩
  case round=>
   obtain ⟨k,hk,rfl,rfl,hwr⟩:=hrel
   have hwr:=hwr.symm
   subst hwr
   by_cases hp:k < l.length
   ·have hx:l[k]? = some l[k]:=List.getElem?_eq_getElem hp
    obtain ⟨b,o,a',c',rfl,hb,hcl,hle,_,_⟩:=hcell k _ hx
    have hc1:=A1t hp
    have hc2:=A9C l (k + 1)
    go_wp2
    go_roundw
    case rel=>exact ⟨k + 1,by omega,by go_num,by rw [hc1];go_num,(by first | rfl | trivial)⟩
    case measure=>simp [RowKit.intOf];omega
   ·have hke:k = l.length:=by omega
    subst hke
    have hcl:Ai4 l l.length = l.flatten.length:=by unfold Ai4;rw [List.take_length]
    rw [hcl]
    obtain ⟨N,hN⟩:∃ N,N = l.flatten.length:=⟨_,rfl⟩
    rw [← hN]
    have hgr:∀ _:Unit,Calls Tryz.prog 340 #[.slice none 0 0,.int .i64 (N:Nat)] w fun e w'=>∃ s,e = .returned s ∧ Bn6 S w w.heap.size l 0 s w' ∧ Below w.heap.size w w':=by
     intro _
     rw [hN]
     by_cases h0:l.flatten.length = 0
     ·rw [h0]
      refine (Any8.slices_Grow_room Bs1 none 0 0 0 w (Nat.zero_le _) (by decide) (by decide) (by decide)).mono ?_
      rintro e w' ⟨rfl,rfl⟩
      exact ⟨_,rfl,.inl ⟨h0,rfl⟩,Below.refl _ _⟩
     ·refine (Any8.slices_Grow_grow Bs1 i0 z hi0 hz0 (by omega) none 0 0 l.flatten.length [] w (Nat.zero_le _) (by omega) (by rw [hb24];omega) (by omega) (by rw [hs3];rfl) (fun _=>rfl) (fun _ h=>by cases h)).mono ?_
      rintro e w' ⟨rfl,rfl⟩
      have hg:=grownCap_ge w (0 + l.flatten.length) 0 253
      refine ⟨_,rfl,.inr ⟨_,_,rfl,Nat.le_trans (by omega) hg,Bq6 w.drew _,?_,Bb2 w.drew _,?_⟩,?_⟩
      ·rw [Array.size_append,Array.size_append,A8L hzc,A8L hzc,show ([]:List Value).toArray.size = 0 from rfl,show rG.t 25 = 253 from rfl]
       generalize grownCap w (0 + l.flatten.length) 0 253 = G at hg
       omega
      ·rw [show Ai4 l 0 * 3 = 0 by rfl]
       exact .of (by simp [win]) fun j v hv=>by simp [nth] at hv
      ·exact (Below.refl _ w).drew.alloc (Nat.le_refl _) _
    have hN':∀ _:Unit,N = l.flatten.length:=fun _=>hN
    have hI:∀ _:Unit,Tryz.prog.info? 253 = some i0 ∧ i0.size = 3:=fun _=>⟨hi0,hs3⟩
    clear hi0 hz0 hs3 hb24 hzc hcl hN
    go_wp2_with (go_at_call 340;refine (hgr ()).mono ?_;rintro e W1 ⟨s,rfl,hG,hB1⟩)
    go_loopw [6,27] (fun s i wr=>∃ k:Nat,k ≤ l.length ∧ i = .int .i64 k ∧ Bn6 S w w.heap.size l k s wr ∧ Below w.heap.size w wr)
     (fun _ i _=>l.length - (RowKit.intOf i).toNat)
    case atStart=>exact ⟨0,Nat.zero_le _,rfl,hG,hB1⟩
    case round=>
     obtain ⟨k,hk,rfl,hG,hnx⟩:=hrel
     by_cases hp:k < l.length
     ·have hx:l[k]? = some l[k]:=List.getElem?_eq_getElem hp
      obtain ⟨b,o,a',c',rfl,hb,hcl,hle,hnil,news,hnew,hsrc⟩:=hcell k _ hx
      have hcl':wr.cell? ⟨b,o + k,none⟩ = some (.slice a' l[k].length c'):=by rw [hnx.cell (p:=⟨b,o + k,none⟩) hb];exact hcl
      have hs1:=hsrc wr hnx
      have hnl:news.length = l[k].length * 3:=hnew.len
      have hcs:=A1t hp
      have hcl2:=A9C l (k + 1)
      have hfl:(l.take (k + 1)).flatten = (l.take k).flatten ++ l[k]:=by
       rw [List.take_add_one,hx,Option.toList_some,List.flatten_append];simp
      obtain ⟨hi0,hs3⟩:=hI ()
      rcases hG with ⟨h0,rfl⟩ | ⟨cap',cs,rfl,hcap',hbk,hsz,hhs,hE⟩
      ·have hz:l[k].length = 0:=by omega
       have hnews:news = []:=List.length_eq_zero_iff.1 (by omega)
       subst hnews
       rw [hz] at hs1 hcl'
       have hrun:∀ ty,(Builtin.append_ #[120,120] ty #[.slice none 0 0,.slice a' 0 c']).run Tryz.prog wr = .ok (.slice none 0 0) wr:=fun ty=>
        run_append_nothing wr 120 120 ty 253 i0 Tryz.underlying120 hi0 none 0 0 (Nat.le_refl _) _ (by rw [hs3];exact hs1)
       have hG':Bn6 S w w.heap.size l (k + 1) (.slice none 0 0) wr:=.inl ⟨h0,rfl⟩
       clear hi0 hs3 hs1 hcs hcl2 hfl hz h0
       go_wp2_with (at_builtin;refine AP1 _ rfl _ _ 120 120 rfl _ _ rfl rfl _ _ hrun ?_)
       go_roundw
       case rel=>exact ⟨k + 1,by omega,by go_num,hG',hnx⟩
       case measure=>simp [RowKit.intOf];omega
      ·have hlt:w.heap.size < wr.heap.size:=by omega
       have hrun:∀ ty,(Builtin.append_ #[120,120] ty #[.slice (some ⟨w.heap.size,0,none⟩) (Ai4 l k) cap',.slice a' l[k].length c']).run Tryz.prog wr = .ok (.slice (some ⟨w.heap.size,0,none⟩) (Ai4 l k + l[k].length) cap') (wr.setCells w.heap.size (0 + Ai4 l k * i0.size) news):=fun ty=>
        run_append_room_src wr 120 120 ty 253 i0 Tryz.underlying120 hi0 w.heap.size 0 (Ai4 l k) cap' _ _ news (by rw [hs3];exact hs1) (by omega)
         (fun j hj=>by rw [hs3];exact A6l ⟨_,_,hbk⟩ (by omega))
         (fun j hj=>by rw [hs3];exact A0D (q:=false) ⟨_,_,hbk,fun _ _=>by simp,.inr rfl⟩ (by omega))
       rw [hs3] at hrun
       obtain ⟨cs1,k1,k2,k3,k4,k5⟩:=Ad7 (vs:=news) (o:=0 + Ai4 l k * 3) (b:=w.heap.size) hbk (by omega)
       have htl:cs.toList.length = cs.size:=Array.length_toList
       have hs1':cs1.size = cs.size:=by
        have:=congrArg List.length k2
        rw [iF (by rw [htl];omega)] at this
        simpa using this
       obtain ⟨W2,hW2⟩:∃ W2,W2 = wr.setCells w.heap.size (0 + Ai4 l k * 3) news:=⟨_,rfl⟩
       rw [← hW2] at hrun k1 k3 k4 k5
       have hG':Bn6 S w w.heap.size l (k + 1) (.slice (some ⟨w.heap.size,0,none⟩) (Ai4 l k + l[k].length) cap') W2:=by
        refine .inr ⟨cap',cs1,by rw [hcs],hcap',k1,by rw [hs1'];exact hsz,by rw [k4];exact hhs,?_⟩
        rw [hfl]
        have he:=(hE.append hnew).flat (S':=S) (w':=w) rfl
        have hw:win cs1.toList 0 (Ai4 l (k + 1) * 3) = win cs.toList 0 (Ai4 l k * 3) ++ news:=by
         rw [hcs]
         refine Bj0 (by rw [List.length_append,mD (by rw [htl];omega)];omega) fun t ht=>?_
         rw [k2,mO (by rw [htl];omega)]
         by_cases h1:t < Ai4 l k * 3
         ·rw [if_pos (by omega),List.getElem?_append_left (by rw [mD (by rw [htl];omega)];omega),tR,if_pos h1]
         ·rw [if_neg (by omega),if_pos (by omega),List.getElem?_append_right (by rw [mD (by rw [htl];omega)];omega),mD (by rw [htl];omega)]
          congr 1;omega
        rw [hw]
        exact he
       have hnx':Below w.heap.size w W2:=⟨k5.os.trans hnx.os,k5.tape.trans hnx.tape,k5.output.trans hnx.output,by rw [k4];exact hnx.size,fun b' hb'=>(k3 b' (by omega)).trans (hnx.block b' hb')⟩
       generalize Ai4 l k + l[k].length = ln at hrun hG'
       clear hi0 hs3 hs1 hcs hcl2 hfl hW2 k1 k2 k3 k4 k5 hsz hhs hE hs1' htl hbk hnl hcap' hnew
       go_wp2_with (at_builtin;refine AP1 _ rfl _ _ 120 120 rfl _ _ rfl rfl _ _ hrun ?_)
       go_roundw
       case rel=>exact ⟨k + 1,by omega,by go_num,hG',hnx'⟩
       case measure=>simp [RowKit.intOf];omega
     ·have hke:k = l.length:=by omega
      subst hke
      go_wp2
      go_ret
      have hcl:Ai4 l l.length = l.flatten.length:=by unfold Ai4;rw [List.take_length]
      rcases hG with ⟨h0,rfl⟩ | ⟨cap',cs,rfl,hcap',hbk,hsz,hhs,hE⟩
      ·have hfe:l.flatten = []:=List.length_eq_zero_iff.1 h0
       obtain ⟨h1,h2⟩:=Ab7 hs hnx
       rw [hfe]
       refine ⟨S,β,[[.slice none 0 0]],h1,h2,?_,rfl,by simp [AS1]⟩
       simp only [oO]
       refine ⟨?_,trivial⟩
       show zP S β noH wr [0] (.sl tB3) (.own .sh) ([]:List tB3.D) _
       simp only [zP,Fl.base]
       exact ⟨by simp [nG,Fl.pins],none,0,rfl,Nat.zero_le _,.inl rfl⟩
      ·rw [hcl]
       rw [List.take_length] at hE
       rw [hcl] at hE
       exact BW6 (τ:=tB3) hs hbk (fun b hb=>hnx.block b hb) hhs ⟨hnx.os,hnx.tape,hnx.output⟩ hcap' (by rw [h3,hsz];exact Nat.le_refl _) (hE.flat (S':=S) rfl) rfl (fun _=>by simp [AS1])
 | [],ha=>simp [tH] at ha
 | _ :: _ :: _,ha=>simp [tH] at ha
theorem Bh9 (hE:E.P = Tryz.prog) (xs:List Int) (hn:xs.length ≤ 1048576):
  Ao2 E ⟨[.io (.sl (.int .i64)) (.own .sh) (.own .sh) 0 []],0,.pair (.sl (.int .i64)) .unit,.pr (.own .sh) .sh,keep,mv⟩ 366 [⟨.sl (.int .i64),xs⟩] ((xs.reverse:List Int),()):=by
 intro w S β cs hs ha
 match cs,ha with
 | [c1],ha=>
  simp only [tH] at ha
  obtain ⟨_,_,hv,_⟩:=ha
  obtain ⟨ad,cap,rfl,hl,hb⟩:=BI3 (τ:=.int .i64) hv
  have h1:(Ty.int IntKind.i64).size = 1:=rfl
  rw [hE]
  refine .inl ⟨Tryz.f366,Tryz.func366,by kernel_rfl,by kernel_rfl,?_⟩
  show Calls Tryz.prog 366 #[.slice ad xs.length cap] w _
  have back:∀ w':World,Sane w' S (fun k=>if k = [1] then β [0] else none) → Step w S β w' S (fun k=>if k = [1] then β [0] else none) → zP S (fun k=>if k = [1] then β [0] else none) noH w' [1] (.sl (.int .i64)) (.own .sh) (xs.reverse:List Int) [.slice ad xs.length cap] →
    Ret ⟨[.io (.sl (.int .i64)) (.own .sh) (.own .sh) 0 []],0,.pair (.sl (.int .i64)) .unit,.pr (.own .sh) .sh,keep,mv⟩ ((xs.reverse:List Int),()) [[.slice ad xs.length cap]] w S β (.tuple #[]) w':=fun w' a1 a2 a3=>by
   refine ⟨S,_,[],a1,a2,?_,rfl,?_⟩
   ·simp only [oO]
   ·simp only [AS1]
    exact ⟨rfl,a3,trivial⟩
  have sane:∀ w':World,(∀ b,b < w.heap.size → (∀ k,β k ≠ some b) → w'.heap[b]? = w.heap[b]?) → w'.heap.size = w.heap.size → SameOut w w' → Sane w' S (fun k=>if k = [1] then β [0] else none) ∧ Step w S β w' S (fun k=>if k = [1] then β [0] else none):=fun w' hb hsz ho=>by
   have hg:∀ k b,(if k = [1] then β [0] else none) = some b → k = [1] ∧ β [0] = some b:=fun k b h=>by
    split at h
    ·exact ⟨by assumption,h⟩
    ·cases h
   refine ⟨⟨fun k k' b h1 h2=>(hg k b h1).1.trans (hg k' b h2).1.symm,fun k b h=>hs.sep _ b (hg k b h).2,fun k b h=>by rw [hsz];exact hs.live _ b (hg k b h).2,fun b h=>by rw [hsz];exact hs.liveS b h,hs.tabs fun b h=>⟨h,hb b (hs.liveS b h) fun k e=>hs.sep k b e h⟩⟩,
    ⟨Nat.le_of_eq hsz.symm,hb,fun k b h=>.inl ⟨_,(hg k b h).2⟩,fun _ h=>h,fun _ h=>.inl h,ho⟩⟩
  by_cases h0:xs = []
  ·subst h0
   refine (Any.slices_Reverse_int_empty Br9 ad cap w).mono ?_
   rintro e w' ⟨rfl,rfl⟩
   obtain ⟨s1,s2⟩:=sane w' (fun _ _ _=>rfl) rfl .rfl'
   refine back w' s1 s2 ?_
   simp only [zP,Fl.base]
   refine ⟨by simp [nG,Fl.pins],ad,cap,rfl,hl,?_⟩
   rcases hb with hb | ⟨b,o,cs,rfl,hk,hB,hz,hel⟩
   ·exact .inl hb
   ·exact .inr ⟨b,o,cs,rfl,by simpa using hk,hB,hz,fun i y hy=>absurd (List.getElem?_eq_some_iff.1 (show ([]:List Int)[i]? = some y from hy)).1 (Nat.not_lt_zero _)⟩
  ·have hpos:0 < xs.length:=List.length_pos_iff.2 h0
   have hl:xs.length ≤ cap:=hl
   rcases hb with hb | ⟨b,o,cs,rfl,hk,hB,hz,hel⟩
   ·omega
   rw [h1] at hz hel
   have hget:∀ j (h:j < xs.length),cs[o + j]? = some (.int .i64 xs[j]):=fun j h=>by
    have h2:=hel.get j xs[j] (List.getElem?_eq_getElem h)
    rw [h1] at h2
    simp only [Rd] at h2
    have h3:(win (win cs.toList o (xs.length * 1)) (j * 1) 1)[0]? = some (.int .i64 xs[j]):=(congrArg (fun l:List Value=>l[0]?) h2).trans rfl
    rw [tR,if_pos (by omega),tR,if_pos (by omega),Array.getElem?_toList] at h3
    rw [show o + j = o + (j * 1 + 0) by omega]
    exact h3
   have hsz:o + xs.length ≤ cs.size:=by omega
   have hH:Holds (Value.int .i64) w b o xs.toArray:=fun j hj=>by
    have hj:j < xs.length:=by simpa using hj
    refine ⟨?_,A0D hB (by omega)⟩
    rw [A07 hB.blk (v:=.int .i64 xs[j]) (by rw [Array.getElem?_toList];exact hget j hj),getElem!_pos _ j (by simpa using hj)]
    simp
   refine (Any.slices_Reverse_int Br9 b o cap xs w hH (by omega)).mono ?_
   rintro e w' ⟨rfl,n,rfl⟩
   obtain ⟨eb,fz,hbl,hfz,hq⟩:=hB
   obtain ⟨p1,p2,p3,p4⟩:=BW4 (enc:=Value.int .i64) (o:=o) (d:=xs.reverse.toArray) (w:=Sort.ahead w n) (b:=b) hbl
   have p2:∀ b',b' ≠ b → (putRow (Value.int .i64) (Sort.ahead w n) b o xs.reverse.toArray).heap[b']? = w.heap[b']?:=p2
   have p3:(putRow (Value.int .i64) (Sort.ahead w n) b o xs.reverse.toArray).heap.size = w.heap.size:=p3
   have ps:(putCells (Value.int .i64) o xs.reverse.toArray cs).size = cs.size:=by unfold putCells;simp
   have pg:∀ j (h:j < xs.reverse.length),(putCells (Value.int .i64) o xs.reverse.toArray cs)[o + j]? = some (.int .i64 xs.reverse[j]):=fun j h=>by
    have h':j < xs.length:=by simpa using h
    have hc:o + j < cs.size:=by omega
    unfold putCells
    rw [Array.getElem?_mapIdx,Array.getElem?_eq_getElem hc]
    simp only [Option.map_some]
    rw [if_pos ⟨by omega,by simp;omega⟩,show o + j - o = j by omega,getElem!_pos _ j (by simpa using h)]
    simp
   obtain ⟨s1,s2⟩:=sane _ (fun b' _ hb'=>p2 b' fun e=>hb' [0] (by rw [e];exact hk)) p3 ⟨p4.os,p4.tape,p4.output⟩
   refine back _ s1 s2 ?_
   have hlr:xs.reverse.length = xs.length:=List.length_reverse
   have hwl:(putCells (Value.int .i64) o xs.reverse.toArray cs).toList.length = cs.size:=by rw [Array.length_toList,ps]
   have:=BR7 (S:=S) (H:=noH) (w:=putRow (Value.int .i64) (Sort.ahead w n) b o xs.reverse.toArray) (β:=fun k=>if k = [1] then β [0] else none) (key:=[1]) (τ:=.int .i64) (xs:=(xs.reverse:List Int)) (cap:=cap) (b:=b) (o:=o) (Nat.le_trans (Nat.le_of_eq hlr) hl) (by simpa using hk) ⟨eb,fz,p1,by rw [ps];exact hfz,hq⟩ (by rw [ps,h1];exact hz)
    (cx:=win (putCells (Value.int .i64) o xs.reverse.toArray cs).toList o (xs.reverse.length * 1)) (.of (by rw [mD (by rw [hwl];omega)];rfl) fun j v hv=>by
     have hj:j < xs.reverse.length:=(List.getElem?_eq_some_iff.1 hv).1
     have hv':xs.reverse[j] = v:=(List.getElem?_eq_some_iff.1 hv).2
     rw [h1]
     simp only [Rd]
     apply List.ext_getElem?
     intro t
     rw [tR]
     by_cases ht:t < 1
     ·have:t = 0:=by omega
      subst this
      rw [if_pos ht,tR,if_pos (by omega),Array.getElem?_toList,show o + (j * 1 + 0) = o + j by omega,pg j hj,hv'];rfl
     ·rw [if_neg ht]
      exact (List.getElem?_eq_none (by simp;omega)).symm) rfl
   have hlr':List.length (α:=(Ty.int .i64).D) xs.reverse = List.length xs:=hlr
   rw [hlr'] at this
   exact this
 | [],ha=>simp [tH] at ha
 | _ :: _ :: _,ha=>simp [tH] at ha
end
end Go.Rf

end
