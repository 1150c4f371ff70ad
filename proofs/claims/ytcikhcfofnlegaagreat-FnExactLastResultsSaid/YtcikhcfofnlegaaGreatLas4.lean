/- What the program computes, in plain words: part 7. No condition. -/
import Derived.Test.YtcikhcfofnlegaaGreatLas3
set_option linter.unusedVariables false
set_option linter.unusedSimpArgs false
section
namespace Go.Rf.S
set_option maxRecDepth 100000
def cE (x:yD):List (List UInt8):=(x.2.2.1.1.drop (16 * x.2.1.2.1.toNat)).take 16
theorem AU4 {x:yD} (h:SO x):(cE x).length = 16:=by
 unfold cE
 have:=h.dl;have:=h.sd
 rw [List.length_take,List.length_drop];omega
theorem Al5 {x:yD} {s:List UInt8} (hs:s ∈ cE x):s ∈ x.2.2.1.1:=List.mem_of_mem_drop (List.mem_of_mem_take hs)
theorem Bi9 {x:yD} (h:SO x):lE R x = some (cE x,()):=by
 have h1:=h.dl;have h2:=h.sd
 obtain ⟨s,hs⟩:=Int.eq_ofNat_of_zero_le (show 0 ≤ x.2.1.2.1 by omega)
 rw [show lE R x = _ from call (Aa8 R L x),hs,zB (by omega),show IntKind.wrap .i64 (16 * ((s + 1:Nat):Int)) = ((16 * (s + 1):Nat):Int) by rw [zI (by omega) (by omega)];omega,show IntKind.wrap .i64 (16 * (s:Int)) = ((16 * s:Nat):Int) by rw [zI (by omega) (by omega)];omega]
 simp (disch:=omega) only [st]
 unfold cE
 rw [hs,Int.toNat_natCast,List.drop_take]
 congr 2
 rw [show 16 * (s + 1) - 16 * s = 16 by omega]
theorem Bh5 (d:oL) (hu:d.2.1 = []) (i:Nat) (hi:i < d.1.length):AA3 R d (i:Int) = some (d.1.getD i [],()):=by
 obtain ⟨s,u,w⟩:=d
 have hu:u = []:=hu
 subst hu
 rw [show AA3 R (s,([],w)) (i:Int) = _ from call (A4d R L (s,([],w)) (i:Int))]
 show lR R L (i:Int) (s,([],w)) (IntKind.wrap .i64 (((0:Nat):Int) - 1)) = _
 rw [show IntKind.wrap .i64 (((0:Nat):Int) - 1) = -1 from rfl,show lR R L (i:Int) (s,([],w)) (-1) = _ from round (by kernel_rfl) (A1S R L (i:Int) (s,([],w)) (-1)),dF (show ¬ (0:Int) ≤ -1 by omega)]
 have hi:i < s.length:=hi
 simp (disch:=omega) only [st]
theorem BJ0 {x:yD} (h:SO x) {i:Nat} (hi:i < 16):(cE x).getD i [] = x.2.2.1.1.getD (16 * x.2.1.2.1.toNat + i) []:=by
 have h1:=h.dl;have h2:=h.sd
 unfold cE
 rw [List.getD_eq_getElem?_getD,List.getElem?_take,if_pos hi,List.getElem?_drop,← List.getD_eq_getElem?_getD]
noncomputable def bk (x:yD) (i:Nat):List UInt8 × Bool:=opD x.1 2 (16 * x.2.1.2.1.toNat + 1 + i) x.2.1.1.toNat ((cE x).getD (i + 1) [])
noncomputable def ldB (x:yD):Nat → Nat → List (List DB) → Option (List (List DB))
 | 0,_,bs=>some bs
 | c + 1,i,bs=>if (bk x i).2 = true then (if bOK (bk x i).1 = true then ldB x c (i + 1) (bs.set i (bV (bk x i).1)) else none) else none
noncomputable def hd (x:yD):List UInt8 × Bool:=opD x.1 1 (16 * x.2.1.2.1.toNat) x.2.1.1.toNat ((cE x).getD 0 [])
abbrev DL:Type:=DE × (List DR × (Bool × Unit))
def no3:DL:=(([],(([],([],([],()))),())),([],(false,())))
def aN (e:DE) (bs:List (List DB)):DE:=(e.1,((e.2.1.1,(e.2.1.2.1,(bs,e.2.1.2.2.2))),e.2.2))
noncomputable def ldF (x:yD):DL:=
 if A5W (cE x) = x.2.1.2.2.2.2.2.2.1 then (if (hd x).2 = true then (if sOK (hd x).1 = true then (match ldB x 15 0 nob with
  | none=>no3
  | some bs=>(aN (sE1 (hd x).1) bs,(sRs (hd x).1,(Ac6 (aN (sE1 (hd x).1) bs),())))) else no3) else no3) else no3
theorem BP4 (l:List (List DB)) (i:Nat) (b:List DB) (hi:i < l.length):(l.set i b).flatten.length + (l.getD i []).length = l.flatten.length + b.length:=by
 induction l generalizing i with
 | nil=>exact absurd hi (Nat.not_lt_zero _)
 | cons a l ih=>
  cases i with
  | zero=>
   show (b :: l).flatten.length + a.length = (a :: l).flatten.length + b.length
   simp only [List.flatten_cons,List.length_append];omega
  | succ i=>
   have:=ih i (by simpa using hi)
   show (a :: l.set i b).flatten.length + (l.getD i []).length = (a :: l).flatten.length + b.length
   simp only [List.flatten_cons,List.length_append];omega
theorem Bw3 {x:yD} (h:SO x) (t:List UInt8) (hh:(sE1 t).2.1.2.1.length ≤ 12) (rs:List DR) (v2:DE):∀ (c i:Nat) (bs:List (List DB)),i + c = 15 → bs.length = 15 → bs.flatten.length ≤ 2 * i →
  sM R L x v2 (cE x) (16 * x.2.1.2.1) (aN (sE1 t) bs) rs 15 (i:Int) = some (match ldB x c i bs with | none=>no3 | some bs=>(aN (sE1 t) bs,(rs,(Ac6 (aN (sE1 t) bs),()))))
 | 0,i,bs,hi,hb,hf=>by
  have:i = 15:=by omega
  subst this
  rw [show sM R L x v2 (cE x) (16 * x.2.1.2.1) (aN (sE1 t) bs) rs 15 ((15:Nat):Int) = _ from round (by kernel_rfl) (aM R L x v2 (cE x) _ (aN (sE1 t) bs) rs 15 ((15:Nat):Int)),dF (show ¬ ((15:Nat):Int) < 15 by omega),Bl7 (aN (sE1 t) bs) (by show (pS 9999 11 _).1.length ≤ _;rw [Ae3];decide) (by show (pS 7 12 _).1.length ≤ _;rw [Ae3];decide) (by
   show (sE1 t).2.1.2.1.length + bs.flatten.length ≤ _;omega)]
  rfl
 | c + 1,i,bs,hi,hb,hf=>by
  have h1:=h.dl;have h2:=h.sd;have h3:=h.c0;have h4:=h.c1
  obtain ⟨s,hs⟩:=Int.eq_ofNat_of_zero_le (show 0 ≤ x.2.1.2.1 by omega)
  obtain ⟨C,hC⟩:=Int.eq_ofNat_of_zero_le h3
  have hsl:=AU4 h
  have hm:(cE x).getD (i + 1) [] ∈ x.2.2.1.1:=Al5 (sL (by omega))
  have hml:=h.ds _ hm
  obtain ⟨o1,o2,o3⟩:=A1f (key:=x.1) (t:=(cE x).getD (i + 1) []) h.k (by omega) 2 (16 * s + 1 + i) C
  have hbk:bk x i = opD x.1 2 (16 * s + 1 + i) C ((cE x).getD (i + 1) []):=by unfold bk;rw [hs,hC];rfl
  rw [← hbk] at o1 o3
  have o1:hM R x.1 2 ((16 * s + 1 + i:Nat):Int) (C:Int) ((cE x).getD (i + 1) []) = _:=o1
  have e1:IntKind.wrap .i64 (1 + (i:Int)) = ((i + 1:Nat):Int):=by rw [zI (by omega) (by omega)];omega
  have e2:IntKind.wrap .i64 (IntKind.wrap .i64 (16 * x.2.1.2.1 + 1) + (i:Int)) = ((16 * s + 1 + i:Nat):Int):=by
   rw [hs,zI (n:=16 * ((s:Nat):Int) + 1) (by omega) (by omega),zI (by omega) (by omega)];omega
  have ih:=Bw3 h t hh rs v2 c (i + 1) (bs.set i (bV (bk x i).1)) (by omega) (by rw [List.length_set];exact hb) (by
   have:=BP4 bs i (bV (bk x i).1) (by omega)
   have:=Bj4 (bk x i).1
   omega)
  rw [show sM R L x v2 (cE x) (16 * x.2.1.2.1) (aN (sE1 t) bs) rs 15 (i:Int) = _ from round (by kernel_rfl) (aM R L x v2 (cE x) _ (aN (sE1 t) bs) rs 15 (i:Int)),dT (show (i:Int) < 15 by omega),e1,e2,hC,zB (by omega)]
  simp (disch:=omega) only [st,o1,BL7]
  unfold ldB
  cases hb1:(bk x i).2 with
  | false=>rfl
  | true=>
   rw [if_pos rfl]
   cases hb2:bOK (bk x i).1 with
   | false=>rfl
   | true=>
    rw [if_pos rfl]
    have hlt:i < (aN (sE1 t) bs).2.1.2.2.1.length:=by show i < bs.length;omega
    simp (disch:=omega) only [st,Bool.not_true]
    exact ih
theorem Bu1 {x:yD} (h:SO x) (t:List UInt8) (rs:List DR) (v2:DE):∀ (c i:Nat) (bs:List (List DB)),i + c = 15 → bs.length = 15 →
  nB R L x v2 (cE x) (aN (sE1 t) bs) rs (i:Int) = some (match ldB x c i bs with | none=>no3 | some bs=>(aN (sE1 t) bs,(rs,(Ac6 (aN (sE1 t) bs),()))))
 | 0,i,bs,hi,hb=>by
  have:i = 15:=by omega
  subst this
  rw [show nB R L x v2 (cE x) (aN (sE1 t) bs) rs ((15:Nat):Int) = _ from round (by kernel_rfl) (AZ2 R L x v2 (cE x) (aN (sE1 t) bs) rs ((15:Nat):Int)),dF (show ¬ ((15:Nat):Int) < 15 by omega),Bi4 (aN (sE1 t) bs) (by show (pS 9999 11 _).1.length ≤ _;rw [Ae3];decide) (by show (pS 7 12 _).1.length ≤ _;rw [Ae3];decide)]
  rfl
 | c + 1,i,bs,hi,hb=>by
  have h1:=h.dl;have h2:=h.sd;have h3:=h.c0;have h4:=h.c1
  obtain ⟨s,hs⟩:=Int.eq_ofNat_of_zero_le (show 0 ≤ x.2.1.2.1 by omega)
  obtain ⟨C,hC⟩:=Int.eq_ofNat_of_zero_le h3
  have hsl:=AU4 h
  have hm:(cE x).getD (i + 1) [] ∈ x.2.2.1.1:=Al5 (sL (by omega))
  have hml:=h.ds _ hm
  obtain ⟨o1,o2,o3⟩:=A1f (key:=x.1) (t:=(cE x).getD (i + 1) []) h.k (by omega) 2 (16 * s + 1 + i) C
  have hbk:bk x i = opD x.1 2 (16 * s + 1 + i) C ((cE x).getD (i + 1) []):=by unfold bk;rw [hs,hC];rfl
  rw [← hbk] at o2 o3
  have o2:kJ R x.1 2 ((16 * s + 1 + i:Nat):Int) (C:Int) ((cE x).getD (i + 1) []) = _:=o2
  have e1:IntKind.wrap .i64 (1 + (i:Int)) = ((i + 1:Nat):Int):=by rw [zI (by omega) (by omega)];omega
  have e2:IntKind.wrap .i64 (IntKind.wrap .i64 (IntKind.wrap .i64 (16 * x.2.1.2.1) + 1) + (i:Int)) = ((16 * s + 1 + i:Nat):Int):=by
   rw [hs,zI (n:=16 * ((s:Nat):Int)) (by omega) (by omega),zI (n:=16 * ((s:Nat):Int) + 1) (by omega) (by omega),zI (by omega) (by omega)];omega
  obtain ⟨v,b1,b2⟩:=BP7 (bk x i).1 (by omega)
  have ih:=Bu1 h t rs v2 c (i + 1) (bs.set i (bV (bk x i).1)) (by omega) (by rw [List.length_set];exact hb)
  rw [show nB R L x v2 (cE x) (aN (sE1 t) bs) rs (i:Int) = _ from round (by kernel_rfl) (AZ2 R L x v2 (cE x) (aN (sE1 t) bs) rs (i:Int)),dT (show (i:Int) < 15 by omega),e1,e2,hC,zB (by omega)]
  simp (disch:=omega) only [st,o2,b1]
  unfold ldB
  cases hb1:(bk x i).2 with
  | false=>rfl
  | true=>
   rw [if_pos rfl]
   cases hb2:bOK (bk x i).1 with
   | false=>rfl
   | true=>
    rw [if_pos rfl,b2 hb2]
    have hlt:i < (aN (sE1 t) bs).2.1.2.2.1.length:=by show i < bs.length;omega
    simp (disch:=omega) only [st,Bool.not_true]
    exact ih
theorem BH0 {x:yD} (h:SO x):Sh (cE x):=fun s hs=>Nat.le_trans (h.ds s (Al5 hs)) (by decide)
theorem BA4 (t:List UInt8):(sE1 t).2.1.2.1.length ≤ 12:=by
 show (pT (po t 140)).1.length ≤ 12
 have hb2:=(BH7 12 (by decide) (pK (po t 140)).2)
 unfold pT;rw [A6V];omega
theorem Bw2 {x:yD} (h:SO x):hM R x.1 1 (16 * x.2.1.2.1) x.2.1.1 ((cE x).getD 0 []) = some ((hd x).1,((hd x).2,())) ∧ kJ R x.1 1 (16 * x.2.1.2.1) x.2.1.1 ((cE x).getD 0 []) = some ((hd x).1,((hd x).2,())) ∧ (hd x).1.length ≤ 1048576:=by
 have h2:=h.sd;have h3:=h.c0
 obtain ⟨s,hs⟩:=Int.eq_ofNat_of_zero_le (show 0 ≤ x.2.1.2.1 by omega)
 obtain ⟨C,hC⟩:=Int.eq_ofNat_of_zero_le h3
 have hsl:=AU4 h
 have hml:=h.ds _ (Al5 (sL (d:=[]) (show 0 < (cE x).length by omega)))
 obtain ⟨o1,o2,o3⟩:=A1f (key:=x.1) (t:=(cE x).getD 0 []) h.k (by omega) 1 (16 * s) C
 have hbk:hd x = opD x.1 1 (16 * s) C ((cE x).getD 0 []):=by unfold hd;rw [hs,hC];rfl
 rw [← hbk] at o1 o2 o3
 rw [hs,hC,show 16 * ((s:Nat):Int) = ((16 * s:Nat):Int) by omega]
 exact ⟨o1,o2,by omega⟩
theorem Bm6 {x:yD} (h:SO x):jY R x = some (ldF x):=by
 have hsl:=AU4 h
 have h2:=h.sd
 obtain ⟨o1,_,_⟩:=Bw2 h
 rw [show jY R x = _ from call (At3 R L x),Bi9 h,zI (n:=16 * x.2.1.2.1) (by omega) (by omega)]
 simp only [Option.bind_some]
 rw [(BT7 hsl (BH0 h)).1]
 simp only [Option.bind_some,fI]
 unfold ldF
 by_cases hr:A5W (cE x) = x.2.1.2.2.2.2.2.2.1
 ·rw [dT hr,if_pos hr]
  simp (disch:=omega) only [st,Bool.not_true]
  rw [show (0:Int).toNat = 0 from rfl,o1]
  simp only [Option.bind_some]
  rw [BY6]
  simp only [Option.bind_some]
  cases h1:(hd x).2 with
  | false=>rfl
  | true=>
   rw [if_pos rfl]
   cases h2:sOK (hd x).1 with
   | false=>rfl
   | true=>
    simp only [cond_false,Bool.not_true,if_true]
    exact Bw3 h (hd x).1 (BA4 _) (sRs (hd x).1) _ 15 0 nob rfl rfl (by decide)
 ·rw [dF hr,if_neg hr];rfl
theorem Bo6 {x:yD} (h:SO x):aY R x = some (ldF x):=by
 have hsl:=AU4 h
 have h1:=h.dl;have h2:=h.sd
 obtain ⟨s,hs⟩:=Int.eq_ofNat_of_zero_le (show 0 ≤ x.2.1.2.1 by omega)
 obtain ⟨_,o1,o3⟩:=Bw2 h
 obtain ⟨e,rs,f1,f2⟩:=Bb7 (hd x).1 o3
 have loop:∀ (n i:Nat),16 - i = n → i ≤ 16 → rL R L x ([],(([],([],([],()))),())) ((cE x).take i) (i:Int) = rL R L x ([],(([],([],([],()))),())) (cE x) 16:=by
  intro n
  induction n with
  | zero=>
   intro i hn hi
   have:i = 16:=by omega
   subst this
   rw [List.take_of_length_le (by omega)];rfl
  | succ n ih=>
   intro i hn hi
   have e2:IntKind.wrap .i64 (IntKind.wrap .i64 (16 * x.2.1.2.1) + (i:Int)) = ((16 * s + i:Nat):Int):=by
    rw [hs,zI (n:=16 * ((s:Nat):Int)) (by omega) (by omega),zI (by omega) (by omega)];omega
   have hg:(cE x).getD i [] = x.2.2.1.1.getD (16 * s + i) []:=by rw [BJ0 h (by omega),hs];rfl
   rw [show rL R L x ([],(([],([],([],()))),())) ((cE x).take i) (i:Int) = _ from round (by kernel_rfl) (AX0 R L x _ ((cE x).take i) (i:Int)),dT (show (i:Int) < 16 by omega),e2,Bh5 x.2.2.1 h.u _ (by omega),zB (by omega)]
   have hl:((cE x).take i).length = i:=by rw [List.length_take];omega
   simp (disch:=omega) only [st,hl]
   rw [← ih (i + 1) (by omega) (by omega),← hg,List.take_add_one,List.getD_eq_getElem?_getD,List.getElem?_eq_getElem (by omega)]
   rfl
 have h0:=loop 16 0 rfl (by decide)
 rw [List.take_zero] at h0
 have h0:rL R L x ([],(([],([],([],()))),())) [] 0 = _:=h0
 rw [show aY R x = _ from call (A41 R L x),h0,show rL R L x ([],(([],([],([],()))),())) (cE x) 16 = _ from round (by kernel_rfl) (AX0 R L x _ (cE x) 16),dF (show ¬ (16:Int) < 16 by omega),zI (n:=16 * x.2.1.2.1) (by omega) (by omega)]
 simp only [cond_false]
 rw [(BT7 hsl (BH0 h)).2]
 simp only [Option.bind_some,fI]
 unfold ldF
 by_cases hr:A5W (cE x) = x.2.1.2.2.2.2.2.2.1
 ·rw [dT hr,if_pos hr]
  simp (disch:=omega) only [st,Bool.not_true]
  rw [show (0:Int).toNat = 0 from rfl,o1]
  simp only [Option.bind_some]
  rw [f1]
  simp only [Option.bind_some]
  cases h1:(hd x).2 with
  | false=>rfl
  | true=>
   rw [if_pos rfl]
   cases h2:sOK (hd x).1 with
   | false=>rfl
   | true=>
    obtain ⟨rfl,rfl⟩:=f2 h2
    simp only [cond_false,Bool.not_true,if_true]
    exact Bu1 h (hd x).1 (sRs (hd x).1) _ 15 0 nob rfl rfl
 ·rw [dF hr,if_neg hr];rfl
def Bu8 (S:List (List UInt8)):Nat → Nat → List UInt8 → List UInt8
 | 0,_,t=>t
 | c + 1,n,t=>Bu8 S c (n + 1) (Bl1 t (S.getD (32 + n % 8) []))
def whole (x:yD):Bool:=decide (Bu8 x.2.2.1.1 (x.2.1.2.2.1.toNat - x.2.1.1.toNat) (x.2.1.1.toNat + 1) x.2.1.2.2.2.2.1 = x.2.1.2.2.2.2.2.1)
end Go.Rf.S

end
section
namespace Go.Rf.S
set_option maxRecDepth 100000
def Bk6 (x:yD):yD:=(x.1,(x.2.1,(x.2.2.1,(false,(true,x.2.2.2.2.2)))))
def upR (x:yD):yD:=(x.1,((x.2.1.1,(x.2.1.2.1,(x.2.1.2.2.1,(x.2.1.2.2.2.1 + 1,x.2.1.2.2.2.2)))),(x.2.2.1,(true,x.2.2.2.2))))
theorem BR0 {x:yD} (h:SO x):kC R x = some (Bk6 x,()):=by
 rw [show kC R x = _ from call (Ai8 R L x),Bi1 h];rfl
end Go.Rf.S

end
section
namespace Go.Rf.S
set_option maxRecDepth 100000
noncomputable def okL (x:yD):Bool:=(ldF x).2.2.1
noncomputable def A6S (x:yD):yD:=if iT x = false then noS else if upc x = 0 then (if okL x = true then x else Bk6 x) else x
noncomputable def A9I (x:yD):List DR:=if iT x = false then [] else if upc x = 0 then (if okL x = true then (ldF x).2.1 else []) else []
noncomputable def BX5 (x:yD):Int:=if iT x = false then 1 else if upc x = 0 then (if okL x = true then 0 else 10) else upc x
theorem Bp9 (x:yD):mA R x = some (A6S x,(A9I x,(BX5 x,()))):=by
 rw [show mA R x = _ from call (As5 R L x),A4r]
 unfold A6S A9I BX5
 cases hs:iT x with
 | false=>rfl
 | true=>
  have h:=SO.of hs
  simp only [Option.bind_some,Bool.not_true,cond_false]
  rw [Bi1 h,By9,if_neg (show ¬ true = false by decide),if_neg (show ¬ true = false by decide),if_neg (show ¬ true = false by decide)]
  simp only [Option.bind_some,wY]
  by_cases hu:upc x = 0
  ·rw [dT hu,if_pos hu,if_pos hu,if_pos hu,Bm6 h]
   simp only [Option.bind_some,Bool.not_true,cond_false]
   unfold okL
   cases h4:(ldF x).2.2.1 with
   | false=>
    simp only [Bool.not_false,cond_true,Bool.false_eq_true,if_false]
    rw [BR0 h];rfl
   | true=>rfl
  ·rw [dF hu,if_neg hu,if_neg hu,if_neg hu];rfl
theorem Bj1 {x:yD} (h:SO x) (hs:iT x = true):gI R x = some (A6S x,(A9I x,(BX5 x,()))):=by
 rw [show gI R x = _ from call (Aw9 R L x),Bx8]
 unfold A6S A9I BX5
 rw [hs,if_neg (show ¬ true = false by decide),if_neg (show ¬ true = false by decide),if_neg (show ¬ true = false by decide)]
 simp only [Option.bind_some,wY]
 by_cases hu:upc x = 0
 ·rw [dT hu,if_pos hu,if_pos hu,if_pos hu,Bo6 h,show AR9 R x = _ from call (A4R R L x)]
  simp only [Option.bind_some,Bool.not_true,cond_false]
  unfold okL
  cases h4:(ldF x).2.2.1 with
  | false=>rfl
  | true=>rfl
 ·rw [dF hu,if_neg hu,if_neg hu,if_neg hu];rfl
theorem BR4 {x:yD} (hs:iT x = true):(A6S x).2.2.1 = x.2.2.1:=by
 unfold A6S
 rw [hs,if_neg (show ¬ true = false by decide)]
 split
 ·split <;> rfl
 ·rfl
theorem Br9 (x:yD):jR R x = some (A6S x,(A9I x,(BX5 x,()))):=by
 rw [show jR R x = _ from call (As4 R L x),A4W]
 cases hs:iT x with
 | false=>unfold A6S A9I BX5;rw [hs];rfl
 | true=>
  have h:=SO.of hs
  simp only [Option.bind_some,Bool.not_true,cond_false]
  rw [Bj1 h hs]
  simp only [Option.bind_some]
  rw [Bs3 (x:=A6S x) (by rw [BR4 hs];exact h.dw)];rfl
theorem BM6 {x:yD} (h2:cnt tF x ≤ 1048576):cnt tF (A6S x) ≤ 1048576:=by
 unfold A6S
 split
 ·decide
 ·split
  ·split <;> exact h2
  ·exact h2
theorem BI8 {l:List rE} (h:cP l = true):cnt (.sl zS) l ≤ 1000:=by
 unfold cP at h
 simp only [Bool.and_eq_true,decide_eq_true_eq] at h
 have e:cnt (.sl zS) l = l.length + (l.map (cnt zS)).sum:=rfl
 have hh:∀ l:List rE,(∀ r ∈ l,Ao4 r = true) → (l.map (cnt zS)).sum ≤ 32 * l.length:=fun l=>by
  induction l with
  | nil=>exact fun _=>Nat.le_refl _
  | cons a l ih=>
   intro hr
   have h1:=ih fun r hm=>hr r (List.mem_cons_of_mem _ hm)
   have h2:=hr a (List.mem_cons_self ..)
   unfold Ao4 at h2
   simp only [Bool.and_eq_true,decide_eq_true_eq] at h2
   have e2:cnt zS a = 0 + (cnt (.sl (.int .i64)) a.2.1 + 0):=rfl
   have e3:=Bq2 a.2.1
   have h3:(List.map (cnt zS) (a :: l)).sum = cnt zS a + (List.map (cnt zS) l).sum:=rfl
   refine Nat.le_trans (Nat.le_of_eq h3) ?_
   have:=h2.2.1
   simp only [List.length_cons]
   omega
 have:=hh l fun r hr=>List.all_eq_true.1 h.2 r hr
 rw [e];omega
theorem BL2 (x:yD):cnt (.sl zS) (A9I x) ≤ 1000:=by
 have h0:cnt (.sl zS) ([]:List rE) ≤ 1000:=by decide
 unfold A9I
 split
 ·exact h0
 ·split
  ·split
   ·unfold ldF
    split
    ·split
     ·split
      ·rename_i h5
       unfold sOK at h5
       simp only [Bool.and_eq_true] at h5
       split
       ·exact h0
       ·exact BI8 h5.2.2
      ·exact h0
     ·exact h0
    ·exact h0
   ·exact h0
  ·exact h0
theorem Bx2 (x:List rE) (k:Nat) (hx:cnt (.sl zS) x ≤ 1048576) (hk:k ≤ 100000000):∃ (k':Nat) (x':List rE),k' ≤ k + 18000000 ∧ mM R x k = some ((k':Int),(x',())) ∧ pL R x' k = some ((k':Int),()):=by
 have n1:=AO3 false (.sl zS) x
 have w:wd (.sl zS) = 3:=rfl
 rw [w] at n1
 have l1:=AW2 (.sl zS) x
 have s1:=cC mt false (.sl zS) x k
 exact ⟨_,_,by omega,A3P x k (by omega) (by omega),A2C (mk_ mt false (.sl zS) x k).1 k _ (Nat.le_trans (Nat.le_of_eq (Ac9 mt false (.sl zS) x k)) (by omega)) (by omega) (A8O mt false (.sl zS) x k)⟩
theorem law_LastResults (x:yD) (hx:Aj9 tF x):nC R x = some (true,()):=by
 rw [show nC R x = _ from call (AE8 R L x),BO7 x 1048576 (by decide) (by decide) hx]
 by_cases h2:cnt tF x ≤ 1048576
 ·rw [Au0 (by omega)]
  obtain ⟨k1,x',b1,m1,_⟩:=Bu5 x 1 h2 (by decide)
  have m1:qH R x 1 = _:=m1
  have e1:=Br9 x
  have e2:=Bp9 x
  have hW:=BM6 h2
  have hR:=BL2 x
  obtain ⟨k4,W',b4,m4,m5⟩:=Bu5 (A6S x) 1 hW (by decide)
  have m4:qH R (A6S x) 1 = _:=m4
  have m5:oJ R W' 1 = _:=m5
  obtain ⟨k6,R',b6,m6,m7⟩:=Bx2 (A9I x) k4 (by omega) (by omega)
  have q1:=A7I (A9I x) (by omega)
  generalize A6S x = W at *
  generalize BX5 x = C at *
  generalize A9I x = V at *
  simp (disch:=omega) only [st,dF,BQ9 x h2,e1,e2,A6J W hW,A6J x h2,q1,m1,m4,m5,m6,m7,Bool.not_true,Bool.not_false]
 ·rw [AE5 (by omega)];rfl
end Go.Rf.S

end
