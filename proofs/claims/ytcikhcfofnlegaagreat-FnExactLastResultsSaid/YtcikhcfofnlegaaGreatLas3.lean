/- What the program computes, in plain words: part 6. No condition. -/
import Derived.Test.YtcikhcfofnlegaaGreatLas2
import Derived.Test.YtcikhcfofnlegaaGreatLas1
set_option linter.unusedVariables false
set_option linter.unusedSimpArgs false
section
namespace Go.Rf.S
set_option maxRecDepth 100000
theorem Br5:∀ n:Fin 32,xH .and .u64 (IntKind.wrap .u64 (n.val:Int)) 31 = (n.val:Int):=by decide +kernel
theorem BT0 (x n:Nat) (hx:x < 4294967296) (hn:n < 32):yX R (x:Int) (n:Int) = some (((rl n x:Nat):Int),()):=by
 have hq:yX R (x:Int) (n:Int) = _:=call (kQ R L (x:Int) (n:Int))
 have e1:=Br5 ⟨n,hn⟩
 simp only at e1
 have e2:IntKind.wrap .u64 ((32:Int) - (n:Int)) = ((32 - n:Nat):Int):=by
  rw [show (32:Int) - (n:Int) = ((32 - n:Nat):Int) by omega,AZ5 (by simp only [sJ];omega)]
 rw [hq,e1,e2,decide_eq_false (show ¬ (((32 - n:Nat):Int) < 0) by omega)]
 simp only [cond_false,tn]
 rw [show Min.min (32 - n) (IntKind.bits .u32) = 32 - n from Nat.min_eq_left (by simp only [IntKind.bits];omega),show Min.min n (IntKind.bits .u32) = n from Nat.min_eq_left (by simp only [IntKind.bits];omega),A7k,Ap2,jO,
  Ah6 (k:=.u32) (wU _) (lD _ hx)]
 rfl
theorem A6x (x n:Nat) (hx:x < 4294967296) (hn:n < 31):rQ R (x:Int) (n:Int) = some (((rl n x:Nat):Int),()):=by
 have hq:rQ R (x:Int) (n:Int) = _:=call (A4H R L (x:Int) (n:Int))
 have e2:IntKind.wrap .i64 ((32:Int) - (n:Int)) = ((32 - n:Nat):Int):=by
  rw [zI (by omega) (by omega)];omega
 have hb:x * 2 ^ n < 9223372036854775808:=by
  have h1:2 ^ n ≤ 2 ^ 30:=Nat.pow_le_pow_right (by decide) (by omega)
  have h2:x * 2 ^ n ≤ x * 2 ^ 30:=Nat.mul_le_mul_left _ h1
  omega
 rw [hq,e2,decide_eq_false (show ¬ ((n:Int) < 0) by omega),decide_eq_false (show ¬ (((32 - n:Nat):Int) < 0) by omega)]
 simp only [cond_false,tn]
 rw [show Min.min (32 - n) (IntKind.bits .i64) = 32 - n from Nat.min_eq_left (by simp only [IntKind.bits];omega),show Min.min n (IntKind.bits .i64) = n from Nat.min_eq_left (by simp only [IntKind.bits];omega),A22 (k:=.i64) hb,jO,
  Ah6 (k:=.i64) hb (Nat.lt_trans (lD _ hx) (by decide)),m32 (Nat.or_lt_two_pow (n:=63) hb (Nat.lt_trans (lD _ hx) (by decide))),Be4 hx]
def qT:List (List Int):=[[16,12],[8,7]]
theorem A90 (a b c d:Nat) (ha:a < 4294967296) (hb:b < 4294967296) (hc:c < 4294967296) (hd:d < 4294967296):
  aX R (a:Int) (b:Int) (c:Int) (d:Int) = some ((((qr a b c d).1:Nat):Int),((((qr a b c d).2.1:Nat):Int),((((qr a b c d).2.2.1:Nat):Int),((((qr a b c d).2.2.2:Nat):Int),())))):=by
 have hq:aX R (a:Int) (b:Int) (c:Int) (d:Int) = _:=call (A4Y R L (a:Int) (b:Int) (c:Int) (d:Int))
 have st:∀ (a b c d i s1 s2:Nat),b < 4294967296 → d < 4294967296 → i < 2 → s1 < 32 → s2 < 32 → (qT.getD i (List.replicate 2 (0:Int))).getD (Int.toNat 0) 0 = (s1:Int) → (qT.getD i (List.replicate 2 (0:Int))).getD (Int.toNat 1) 0 = (s2:Int) →
   sD R L (a:Int) (b:Int) (c:Int) (d:Int) qT (i:Int) =
    sD R L (((a + b) % 4294967296:Nat):Int) ((rl s2 (b ^^^ ((c + rl s1 (d ^^^ ((a + b) % 4294967296))) % 4294967296)):Nat):Int) (((c + rl s1 (d ^^^ ((a + b) % 4294967296))) % 4294967296:Nat):Int) ((rl s1 (d ^^^ ((a + b) % 4294967296)):Nat):Int) qT ((i + 1:Nat):Int):=by
  intro a b c d i s1 s2 hb hd hi h1 h2 e1 e2
  have hq:sD R L (a:Int) (b:Int) (c:Int) (d:Int) qT (i:Int) = _:=round (by kernel_rfl) (AY0 R L (a:Int) (b:Int) (c:Int) (d:Int) qT (i:Int))
  rw [hq,show decide ((i:Int) < 2) = true from decide_eq_true (by omega),zB (by omega)]
  simp only [nn,tn,cond_true,zX (show i < 2 from hi),BU1]
  rw [e1,e2,AF6 (k:=.u32) (by decide) hd (wU _),BT0 _ s1 (xJ hd (wU _)) h1]
  simp only [Option.bind_some,BU1]
  rw [AF6 (k:=.u32) (by decide) hb (wU _),BT0 _ s2 (xJ hb (wU _)) h2]
  rfl
 rw [hq]
 show sD R L (a:Int) (b:Int) (c:Int) (d:Int) qT ((0:Nat):Int) = _
 rw [st a b c d 0 16 12 hb hd (by decide) (by decide) (by decide) rfl rfl,st _ _ _ _ 1 8 7 (Ax3 (xJ hb (wU _))) (Ax3 (xJ hd (wU _))) (by decide) (by decide) (by decide) rfl rfl]
 have he:∀ (a b c d:Int),sD R L a b c d qT ((1 + 1:Nat):Int) = some (a,(b,(c,(d,())))):=fun a b c d=>by
  have hq:sD R L a b c d qT ((1 + 1:Nat):Int) = _:=round (by kernel_rfl) (AY0 R L a b c d qT ((1 + 1:Nat):Int))
  rw [hq];rfl
 rw [he]
 rfl
def ql (q:Nat × Nat × Nat × Nat):List Nat:=[q.1,q.2.1,q.2.2.1,q.2.2.2]
theorem A0s (a b c d:Nat) (ha:a < 4294967296) (hb:b < 4294967296) (hc:c < 4294967296) (hd:d < 4294967296):
  gA R (a:Int) (b:Int) (c:Int) (d:Int) = some (cl (ql (qr a b c d)),()):=by
 have hq:gA R (a:Int) (b:Int) (c:Int) (d:Int) = _:=call (Au9 R L (a:Int) (b:Int) (c:Int) (d:Int))
 have sm:∀ {x y:Nat},x < 4294967296 → y < 4294967296 → xH .and .i64 (IntKind.wrap .i64 ((x:Int) + (y:Int))) 4294967295 = (((x + y) % 4294967296:Nat):Int):=fun hx hy=>by
  rw [At6 (by simp only [sJ];omega),m32 (by omega)]
 have L16:∀ {x:Nat},x < 4294967296 → rQ R (x:Int) 16 = some (((rl 16 x:Nat):Int),()):=fun {x} h=>A6x x 16 h (by decide)
 have L12:∀ {x:Nat},x < 4294967296 → rQ R (x:Int) 12 = some (((rl 12 x:Nat):Int),()):=fun {x} h=>A6x x 12 h (by decide)
 have L8:∀ {x:Nat},x < 4294967296 → rQ R (x:Int) 8 = some (((rl 8 x:Nat):Int),()):=fun {x} h=>A6x x 8 h (by decide)
 have L7:∀ {x:Nat},x < 4294967296 → rQ R (x:Int) 7 = some (((rl 7 x:Nat):Int),()):=fun {x} h=>A6x x 7 h (by decide)
 have h1:=wU (a + b)
 have hd1:rl 16 (d ^^^ ((a + b) % 4294967296)) < 4294967296:=Ax3 (xJ hd h1)
 have hc1:=wU (c + rl 16 (d ^^^ ((a + b) % 4294967296)))
 rw [hq,sm ha hb,AF6 (k:=.i64) (by decide) hd h1,L16 (xJ hd h1)]
 simp only [Option.bind_some]
 rw [sm hc hd1,AF6 (k:=.i64) (by decide) hb hc1,L12 (xJ hb hc1)]
 simp only [Option.bind_some]
 have hb1:rl 12 (b ^^^ ((c + rl 16 (d ^^^ ((a + b) % 4294967296))) % 4294967296)) < 4294967296:=Ax3 (xJ hb hc1)
 rw [sm h1 hb1,AF6 (k:=.i64) (by decide) hd1 (wU _),L8 (xJ hd1 (wU _))]
 simp only [Option.bind_some]
 rw [sm hc1 (Ax3 (xJ hd1 (wU _))),AF6 (k:=.i64) (by decide) hb1 (wU _),L7 (xJ hb1 (wU _))]
 rfl
theorem Bc6 {a b c d:Nat} {y:List Nat} {n:Nat} (h:Wd n y):Wd n (qs a b c d y):=⟨by rw [Bo3];exact h.1,Bt4 h.2⟩
theorem A9S (y:List Nat) (hy:Wd 16 y) (a b c d:Nat) (ha:a < 16) (hb:b < 16) (hc:c < 16) (hd:d < 16):
  gZ R (cl y) (a:Int) (b:Int) (c:Int) (d:Int) = some (cl (qs a b c d y),()):=by
 have hq:gZ R (cl y) (a:Int) (b:Int) (c:Int) (d:Int) = _:=call (A2o R L (cl y) (a:Int) (b:Int) (c:Int) (d:Int))
 rw [hq]
 simp only [nn,tn,cond_true,zX ha,zX hb,zX hc,zX hd,yG]
 rw [A0s _ _ _ _ (hy.g a) (hy.g b) (hy.g c) (hy.g d)]
 simp only [Option.bind_some,yG,tM]
 rfl
theorem BV4 (k:IntKind) (hk:4294967296 ≤ sJ k) (h32:32 ≤ k.bits) (t:List UInt8) (i:Nat):
  xH .or k (xH .or k (xH .or k (IntKind.wrap k (((t.getD i 0).toNat:Nat):Int))
   (IntKind.wrap k (IntKind.wrap k (((t.getD (i + 1) 0).toNat:Nat):Int) * ((2:Int) ^ Min.min (Int.toNat 8) k.bits))))
   (IntKind.wrap k (IntKind.wrap k (((t.getD (i + 2) 0).toNat:Nat):Int) * ((2:Int) ^ Min.min (Int.toNat 16) k.bits))))
   (IntKind.wrap k (IntKind.wrap k (((t.getD (i + 3) 0).toNat:Nat):Int) * ((2:Int) ^ Min.min (Int.toNat 24) k.bits))) = ((wLE t i:Nat):Int):=by
 have h0:=qB t i;have h1:=qB t (i + 1);have h2:=qB t (i + 2);have h3:=qB t (i + 3)
 have m24:Min.min (Int.toNat 24) k.bits = 24:=Nat.min_eq_left (by show 24 ≤ _;omega)
 have m16:Min.min (Int.toNat 16) k.bits = 16:=Nat.min_eq_left (by show 16 ≤ _;omega)
 have m8:Min.min (Int.toNat 8) k.bits = 8:=Nat.min_eq_left (by show 8 ≤ _;omega)
 have hk8:256 ≤ sJ k:=Nat.le_trans (by decide) hk
 unfold bt at h0 h1 h2 h3
 rw [m24,m16,m8,A28 hk8,A28 hk8,A28 hk8,A28 hk8,A22 (by omega),A22 (by omega),A22 (by omega),Bf7 hk (by omega) (by omega),Bf7 hk (iQ (by omega) (by omega)) (by omega),Bf7 hk (iQ (iQ (by omega) (by omega)) (by omega)) (by omega)]
 rfl
theorem A0d (t:List UInt8) (i:Nat) (h:i + 3 < t.length) (hi:i < 1099511627776):nU R t (i:Int) = some (((wLE t i:Nat):Int),()):=by
 have hq:nU R t (i:Int) = _:=call (A5U R L t (i:Int))
 have e1:IntKind.wrap .i64 ((i:Int) + 1) = ((i + 1:Nat):Int):=Aq9 1 (by omega)
 have e2:IntKind.wrap .i64 ((i:Int) + 2) = ((i + 2:Nat):Int):=Aq9 2 (by omega)
 have e3:IntKind.wrap .i64 ((i:Int) + 3) = ((i + 3:Nat):Int):=Aq9 3 (by omega)
 rw [hq,e1,e2,e3]
 simp only [nn,tn,zX (show i < t.length by omega),zX (show i + 1 < t.length by omega),zX (show i + 2 < t.length by omega),zX h,cond_true]
 rw [BV4 .i64 (by decide) (by decide)]
theorem Ag1 (t:List UInt8) (h:4 ≤ t.length):lQ R t = some (((wLE t 0:Nat):Int),()):=by
 have hq:lQ R t = _:=call (Av0 R L t)
 rw [hq]
 simp only [show Int.toNat 0 = 0 from rfl,show Int.toNat 1 = 1 from rfl,show Int.toNat 2 = 2 from rfl,show Int.toNat 3 = 3 from rfl,zX (show 0 < t.length by omega),zX (show 1 < t.length by omega),zX (show 2 < t.length by omega),zX (show 3 < t.length by omega),cond_true]
 rw [show xH .or .u32 _ _ = _ from BV4 .u32 (by decide) (by decide) t 0]
end Go.Rf.S

end
section
namespace Go.Rf.S
set_option maxRecDepth 100000
theorem A6q (v n:Nat) (hn:n ≤ 8):rC R L (v:Int) (cl []) (n:Int) 0 = some (ub (lit v n),()) ∧ (lit v n).length = n:=
 yL (fun (o:List Nat) i=>rC R L (v:Int) (cl o) (n:Int) i) (stL v) (fun i o=>o.length = i) n (fun o=>some (ub o,()))
  (fun o _=>by
   have hq:rC R L (v:Int) (cl o) (n:Int) (n:Nat) = _:=round (by kernel_rfl) (Af4 R L (v:Int) (cl o) (n:Int) (n:Nat))
   show rC R L (v:Int) (cl o) (n:Int) (n:Nat) = _
   rw [hq,decide_eq_false (show ¬ ((n:Int) < (n:Int)) by omega),Ap4];rfl)
  (fun o i hi ho=>by
   have hq:rC R L (v:Int) (cl o) (n:Int) (i:Nat) = _:=round (by kernel_rfl) (Af4 R L (v:Int) (cl o) (n:Int) (i:Nat))
   refine ⟨?_,by unfold stL;rw [List.length_append,ho];rfl⟩
   show rC R L (v:Int) (cl o) (n:Int) (i:Nat) = _
   have e8:IntKind.wrap .i64 ((8:Int) * (i:Int)) = ((8 * i:Nat):Int):=by rw [zI (by omega) (by omega)];omega
   rw [hq,decide_eq_true (show (i:Int) < (n:Int) by omega),e8,decide_eq_false (show ¬ (((8 * i:Nat):Int) < 0) by omega),tn,show Min.min (8 * i) (IntKind.bits .i64) = 8 * i from Nat.min_eq_left (by simp only [IntKind.bits];omega),jO,sO,
    vU (by rw [fB];simp only [List.length_cons,List.length_nil];omega),zB (by omega)]
   simp only [cond_true,cond_false]
   rw [show [((v / 2 ^ (8 * i) % 256:Nat):Int)] = cl [v / 2 ^ (8 * i) % 256] from rfl,AX8]
   rfl)
  [] rfl
theorem AN1 (v n:Nat) (hn:n ≤ 8):vJ R (v:Int) (n:Int) = some (ub (lit v n),()):=by
 have hq:vJ R (v:Int) (n:Int) = _:=call (A8H R L (v:Int) (n:Int))
 exact hq.trans (A6q v n hn).1
theorem bC (v n:Nat) (hn:n ≤ 8):(lit v n).length = n:=(A6q v n hn).2
theorem Ad2 {a b:List UInt8} {i:Nat} (h:i < a.length):bt (a ++ b) i = bt a i:=by
 unfold bt;rw [List.getD_eq_getElem?_getD,List.getD_eq_getElem?_getD,List.getElem?_append_left h]
theorem Ab1 {a b:List UInt8} {i:Nat} (h:a.length ≤ i):bt (a ++ b) i = bt b (i - a.length):=by
 unfold bt;rw [List.getD_eq_getElem?_getD,List.getD_eq_getElem?_getD,List.getElem?_append_right h]
theorem AK8 {a b:List UInt8} {i:Nat} (h:i + 3 < a.length):wLE (a ++ b) i = wLE a i:=by
 unfold wLE;rw [Ad2 (by omega),Ad2 (by omega),Ad2 (by omega),Ad2 (by omega)]
theorem A04 {a b:List UInt8} {i j:Nat} (h:i = a.length + j):wLE (a ++ b) i = wLE b j:=by
 unfold wLE;rw [Ab1 (by omega),Ab1 (by omega),Ab1 (by omega),Ab1 (by omega),show i - a.length = j by omega,show i + 1 - a.length = j + 1 by omega,show i + 2 - a.length = j + 2 by omega,show i + 3 - a.length = j + 3 by omega]
theorem A6Y {t:List UInt8} {i:Nat}:wLE (t.drop i) 0 = wLE t i:=by
 have:∀ j,bt (t.drop i) j = bt t (i + j):=fun j=>by unfold bt;rw [List.getD_eq_getElem?_getD,List.getD_eq_getElem?_getD,List.getElem?_drop]
 unfold wLE
 rw [this,this,this,this]
 simp only [Nat.add_zero,Nat.zero_add]
theorem BA2 {a b n:Nat} (h:a < 2 ^ n):a ||| b * 2 ^ n = a + b * 2 ^ n:=by
 rw [Nat.or_comm,Nat.mul_comm b,← Nat.two_pow_add_eq_or_of_lt h,Nat.add_comm]
theorem Bd7 (v:Nat) (hv:v < 4294967296):wLE (ub (lit v 4)) 0 = v:=by
 have e:ub (lit v 4) = [UInt8.ofNat (v / 2 ^ 0 % 256),UInt8.ofNat (v / 2 ^ 8 % 256),UInt8.ofNat (v / 2 ^ 16 % 256),UInt8.ofNat (v / 2 ^ 24 % 256)]:=rfl
 have b:∀ n:Nat,(UInt8.ofNat (n % 256)).toNat = n % 256:=fun n=>by
  rw [UInt8.toNat_ofNat'];exact Nat.mod_mod _ _
 rw [e]
 unfold wLE bt
 show (UInt8.ofNat (v / 2 ^ 0 % 256)).toNat ||| (UInt8.ofNat (v / 2 ^ 8 % 256)).toNat * 2 ^ 8 ||| (UInt8.ofNat (v / 2 ^ 16 % 256)).toNat * 2 ^ 16 ||| (UInt8.ofNat (v / 2 ^ 24 % 256)).toNat * 2 ^ 24 = v
 rw [b,b,b,b,BA2 (n:=8) (by omega),BA2 (n:=16) (by omega),BA2 (n:=24) (by omega)]
 omega
theorem Bm7 (key nonce:List UInt8) (count:Nat) (hc:count < 4294967296):Wd 16 (chI key nonce count):=⟨rfl,fun x hx=>by
 unfold chI at hx
 simp only [List.mem_cons,List.not_mem_nil,or_false] at hx
 rcases hx with rfl | rfl | rfl | rfl | rfl | rfl | rfl | rfl | rfl | rfl | rfl | rfl | rfl | rfl | rfl | rfl <;> first | exact BU3 _ _ | exact hc⟩
theorem BZ7 (key nonce:List UInt8) (count:Int) (y:List Nat):
  uJ R L key nonce count (cl y) 0 = wP R L key nonce count (cl (wK (fun i y=>y.set i (wLE exC (4 * i))) 4 0 y)) 0:=
 (yL (fun (y:List Nat) i=>uJ R L key nonce count (cl y) i) (fun i y=>y.set i (wLE exC (4 * i))) (fun _ _=>True) 4 (fun y=>wP R L key nonce count (cl y) 0)
  (fun y _=>by
   have hq:uJ R L key nonce count (cl y) (4:Nat) = _:=round (by kernel_rfl) (AQ3 R L key nonce count (cl y) (4:Nat))
   show uJ R L key nonce count (cl y) (4:Nat) = _
   rw [hq];rfl)
  (fun y i hi _=>by
   have hq:uJ R L key nonce count (cl y) (i:Nat) = _:=round (by kernel_rfl) (AQ3 R L key nonce count (cl y) (i:Nat))
   refine ⟨?_,trivial⟩
   show uJ R L key nonce count (cl y) (i:Nat) = _
   have e4:IntKind.wrap .i64 ((4:Int) * (i:Int)) = ((4 * i:Nat):Int):=by rw [zI (by omega) (by omega)];omega
   rw [hq,show decide ((i:Int) < 4) = true from decide_eq_true (by omega),e4,show nU R [101,120,112,97,110,100,32,51,50,45,98,121,116,101,32,107] ((4 * i:Nat):Int) = some (((wLE exC (4 * i):Nat):Int),()) from A0d exC (4 * i) (by show 4 * i + 3 < 16;omega) (by omega),zB (by omega)]
   simp only [nn,tn,cond_true,Option.bind_some]
   rw [zX (show i < 16 by omega),tM]
   rfl)
  y trivial).1
theorem BZ0 (key nonce:List UInt8) (hk:key.length = 32) (count:Nat) (y:List Nat):
  wP R L key nonce (count:Int) (cl y) 0 = wR R L nonce (cl ((wK (fun i y=>y.set (4 + i) (wLE key (4 * i))) 8 0 y).set 12 count)) 0:=
 (yL (fun (y:List Nat) i=>wP R L key nonce (count:Int) (cl y) i) (fun i y=>y.set (4 + i) (wLE key (4 * i))) (fun _ _=>True) 8 (fun y=>wR R L nonce (cl (y.set 12 count)) 0)
  (fun y _=>by
   have hq:wP R L key nonce (count:Int) (cl y) (8:Nat) = _:=round (by kernel_rfl) (AQ6 R L key nonce (count:Int) (cl y) (8:Nat))
   show wP R L key nonce (count:Int) (cl y) (8:Nat) = _
   rw [hq,tM];rfl)
  (fun y i hi _=>by
   have hq:wP R L key nonce (count:Int) (cl y) (i:Nat) = _:=round (by kernel_rfl) (AQ6 R L key nonce (count:Int) (cl y) (i:Nat))
   refine ⟨?_,trivial⟩
   show wP R L key nonce (count:Int) (cl y) (i:Nat) = _
   have e4:IntKind.wrap .i64 ((4:Int) * (i:Int)) = ((4 * i:Nat):Int):=by rw [zI (by omega) (by omega)];omega
   have e5:IntKind.wrap .i64 ((4:Int) + (i:Int)) = ((4 + i:Nat):Int):=by rw [zI (by omega) (by omega)];omega
   rw [hq,show decide ((i:Int) < 8) = true from decide_eq_true (by omega),e4,e5,A0d key (4 * i) (by omega) (by omega),zB (by omega)]
   simp only [nn,tn,cond_true,Option.bind_some]
   rw [zX (show 4 + i < 16 by omega),tM]
   rfl)
  y trivial).1
theorem Be9 (nonce:List UInt8) (hk:nonce.length = 12) (y:List Nat):
  wR R L nonce (cl y) 0 = xC R L (cl (wK (fun i y=>y.set (13 + i) (wLE nonce (4 * i))) 3 0 y)) (cl (wK (fun i y=>y.set (13 + i) (wLE nonce (4 * i))) 3 0 y)) 0:=
 (yL (fun (y:List Nat) i=>wR R L nonce (cl y) i) (fun i y=>y.set (13 + i) (wLE nonce (4 * i))) (fun _ _=>True) 3 (fun y=>xC R L (cl y) (cl y) 0)
  (fun y _=>by
   have hq:wR R L nonce (cl y) (3:Nat) = _:=round (by kernel_rfl) (AR0 R L nonce (cl y) (3:Nat))
   show wR R L nonce (cl y) (3:Nat) = _
   rw [hq];rfl)
  (fun y i hi _=>by
   have hq:wR R L nonce (cl y) (i:Nat) = _:=round (by kernel_rfl) (AR0 R L nonce (cl y) (i:Nat))
   refine ⟨?_,trivial⟩
   show wR R L nonce (cl y) (i:Nat) = _
   have e4:IntKind.wrap .i64 ((4:Int) * (i:Int)) = ((4 * i:Nat):Int):=by rw [zI (by omega) (by omega)];omega
   have e5:IntKind.wrap .i64 ((13:Int) + (i:Int)) = ((13 + i:Nat):Int):=by rw [zI (by omega) (by omega)];omega
   rw [hq,show decide ((i:Int) < 3) = true from decide_eq_true (by omega),e4,e5,A0d nonce (4 * i) (by omega) (by omega),zB (by omega)]
   simp only [nn,tn,cond_true,Option.bind_some]
   rw [zX (show 13 + i < 16 by omega),tM]
   rfl)
  y trivial).1
theorem Bl4 (key nonce:List UInt8) (hk:key.length = 32) (hn:nonce.length = 12) (count:Nat):
  oC R key nonce (count:Int) = xC R L (cl (chI key nonce count)) (cl (chI key nonce count)) 0:=by
 have hq:oC R key nonce (count:Int) = _:=call (A2t R L key nonce (count:Int))
 refine hq.trans ((BZ7 key nonce (count:Int) (List.replicate 16 0)).trans ((BZ0 key nonce hk count _).trans ((Be9 nonce hn _).trans ?_)))
 rfl
theorem Bf6 {k:Nat} {y:List Nat} (h:Wd 16 y):Wd 16 (rk k y):=Bc6 (Bc6 (Bc6 (Bc6 h)))
theorem BK4 (v7:List Int) (y:List Nat) (hy:Wd 16 y) (v12:Int):
  uP R L v7 (cl y) v12 0 = wQ R L v7 (cl (rk 0 y)) v12 0:=
 (yL (fun (y:List Nat) i=>uP R L v7 (cl y) v12 i) (fun i y=>qs i (4 + (i + 0) % 4) (8 + (i + 2 * 0) % 4) (12 + (i + 3 * 0) % 4) y) (fun _ y=>Wd 16 y) 4 (fun y=>wQ R L v7 (cl y) v12 0)
  (fun y _=>by
   have hq:uP R L v7 (cl y) v12 (4:Nat) = _:=round (by kernel_rfl) (AQ5 R L v7 (cl y) v12 (4:Nat))
   show uP R L v7 (cl y) v12 (4:Nat) = _
   rw [hq];rfl)
  (fun y i hi hy=>by
   have hq:uP R L v7 (cl y) v12 (i:Nat) = _:=round (by kernel_rfl) (AQ5 R L v7 (cl y) v12 (i:Nat))
   refine ⟨?_,Bc6 hy⟩
   show uP R L v7 (cl y) v12 (i:Nat) = _
   have e4:IntKind.wrap .i64 ((4:Int) + (i:Int)) = ((4 + (i + 0) % 4:Nat):Int):=by rw [zI (by omega) (by omega)];omega
   have e8:IntKind.wrap .i64 ((8:Int) + (i:Int)) = ((8 + (i + 2 * 0) % 4:Nat):Int):=by rw [zI (by omega) (by omega)];omega
   have e12:IntKind.wrap .i64 ((12:Int) + (i:Int)) = ((12 + (i + 3 * 0) % 4:Nat):Int):=by rw [zI (by omega) (by omega)];omega
   rw [hq,show decide ((i:Int) < 4) = true from decide_eq_true (by omega),e4,e8,e12,A9S y hy _ _ _ _ (by omega) (by omega) (by omega) (by omega),zB (by omega)]
   rfl)
  y hy).1
theorem tm4 (a:Nat):Int.tmod (a:Int) 4 = ((a % 4:Nat):Int):=BA6 a 4
theorem BR6 (v7:List Int) (y:List Nat) (hy:Wd 16 y) (v12:Int):
  wQ R L v7 (cl y) v12 0 = xC R L v7 (cl (rk 1 y)) (IntKind.wrap .i64 (v12 + 1)):=
 (yL (fun (y:List Nat) i=>wQ R L v7 (cl y) v12 i) (fun i y=>qs i (4 + (i + 1) % 4) (8 + (i + 2 * 1) % 4) (12 + (i + 3 * 1) % 4) y) (fun _ y=>Wd 16 y) 4 (fun y=>xC R L v7 (cl y) (IntKind.wrap .i64 (v12 + 1)))
  (fun y _=>by
   have hq:wQ R L v7 (cl y) v12 (4:Nat) = _:=round (by kernel_rfl) (AO0 R L v7 (cl y) v12 (4:Nat))
   show wQ R L v7 (cl y) v12 (4:Nat) = _
   rw [hq];rfl)
  (fun y i hi hy=>by
   have hq:wQ R L v7 (cl y) v12 (i:Nat) = _:=round (by kernel_rfl) (AO0 R L v7 (cl y) v12 (i:Nat))
   refine ⟨?_,Bc6 hy⟩
   show wQ R L v7 (cl y) v12 (i:Nat) = _
   have f1:IntKind.wrap .i64 ((i:Int) + 1) = ((i + 1:Nat):Int):=zB (by omega)
   have f2:IntKind.wrap .i64 ((i:Int) + 2) = ((i + 2 * 1:Nat):Int):=Aq9 2 (by omega)
   have f3:IntKind.wrap .i64 ((i:Int) + 3) = ((i + 3 * 1:Nat):Int):=Aq9 3 (by omega)
   have e4:IntKind.wrap .i64 ((4:Int) + (((i + 1) % 4:Nat):Int)) = ((4 + (i + 1) % 4:Nat):Int):=by rw [zI (by omega) (by omega)];omega
   have e8:IntKind.wrap .i64 ((8:Int) + (((i + 2 * 1) % 4:Nat):Int)) = ((8 + (i + 2 * 1) % 4:Nat):Int):=by rw [zI (by omega) (by omega)];omega
   have e12:IntKind.wrap .i64 ((12:Int) + (((i + 3 * 1) % 4:Nat):Int)) = ((12 + (i + 3 * 1) % 4:Nat):Int):=by rw [zI (by omega) (by omega)];omega
   rw [hq,show decide ((i:Int) < 4) = true from decide_eq_true (by omega),f1,f2,f3,tm4,tm4,tm4,e4,e8,e12,A9S y hy _ _ _ _ (by omega) (by omega) (by omega) (by omega)]
   rfl)
  y hy).1
theorem A4T (v7:List Int) (y:List Nat) (hy:Wd 16 y):
  xC R L v7 (cl y) 0 = wN R L v7 (cl (r10 y)) (cl []) 0 ∧ Wd 16 (r10 y):=
 yL (fun (y:List Nat) i=>xC R L v7 (cl y) i) (fun _ y=>rk 1 (rk 0 y)) (fun _ y=>Wd 16 y) 10 (fun y=>wN R L v7 (cl y) (cl []) 0)
  (fun y _=>by
   have hq:xC R L v7 (cl y) (10:Nat) = _:=round (by kernel_rfl) (AO9 R L v7 (cl y) (10:Nat))
   show xC R L v7 (cl y) (10:Nat) = _
   rw [hq];rfl)
  (fun y i hi hy=>by
   have hq:xC R L v7 (cl y) (i:Nat) = _:=round (by kernel_rfl) (AO9 R L v7 (cl y) (i:Nat))
   refine ⟨?_,Bf6 (Bf6 hy)⟩
   show xC R L v7 (cl y) (i:Nat) = _
   rw [hq,show decide ((i:Int) < 10) = true from decide_eq_true (by omega)]
   simp only [cond_true]
   rw [BK4 v7 y hy,BR6 v7 _ (Bf6 hy),zB (by omega)])
  y hy
end Go.Rf.S

end
section
namespace Go.Rf.S
set_option maxRecDepth 100000
theorem BD8 (v8:List Int) (k:Nat) (hk:k < 2) (v41:Int) (y:List Nat) (hy:Wd 16 y):
  rI R L v8 (cl y) (k:Int) v41 (k:Int) 0 = mY R L v8 (cl (rk k y)) v41 ((k + 1:Nat):Int):=
 (yL (fun (y:List Nat) i=>rI R L v8 (cl y) (k:Int) v41 (k:Int) i) (fun i y=>qs i (4 + (i + k) % 4) (8 + (i + 2 * k) % 4) (12 + (i + 3 * k) % 4) y) (fun _ y=>Wd 16 y) 4 (fun y=>mY R L v8 (cl y) v41 ((k + 1:Nat):Int))
  (fun y _=>by
   have hq:rI R L v8 (cl y) (k:Int) v41 (k:Int) (4:Nat) = _:=round (by kernel_rfl) (Ag8 R L v8 (cl y) (k:Int) v41 (k:Int) (4:Nat))
   show rI R L v8 (cl y) (k:Int) v41 (k:Int) (4:Nat) = _
   rw [hq,show decide (((4:Nat):Int) < 4) = false from by decide]
   simp only [cond_false]
   rw [zB (i:=k) (by omega)])
  (fun y i hi hy=>by
   have hq:rI R L v8 (cl y) (k:Int) v41 (k:Int) (i:Nat) = _:=round (by kernel_rfl) (Ag8 R L v8 (cl y) (k:Int) v41 (k:Int) (i:Nat))
   refine ⟨?_,Bc6 hy⟩
   show rI R L v8 (cl y) (k:Int) v41 (k:Int) (i:Nat) = _
   have f1:IntKind.wrap .i64 ((i:Int) + (k:Int)) = ((i + k:Nat):Int):=At6 (by simp only [sJ];omega)
   have g2:IntKind.wrap .i64 ((2:Int) * (k:Int)) = ((2 * k:Nat):Int):=by rw [zI (by omega) (by omega)];omega
   have g3:IntKind.wrap .i64 ((3:Int) * (k:Int)) = ((3 * k:Nat):Int):=by rw [zI (by omega) (by omega)];omega
   have f2:IntKind.wrap .i64 ((i:Int) + ((2 * k:Nat):Int)) = ((i + 2 * k:Nat):Int):=At6 (by simp only [sJ];omega)
   have f3:IntKind.wrap .i64 ((i:Int) + ((3 * k:Nat):Int)) = ((i + 3 * k:Nat):Int):=At6 (by simp only [sJ];omega)
   have e4:IntKind.wrap .i64 ((4:Int) + (((i + k) % 4:Nat):Int)) = ((4 + (i + k) % 4:Nat):Int):=by rw [zI (by omega) (by omega)];omega
   have e8:IntKind.wrap .i64 ((8:Int) + (((i + 2 * k) % 4:Nat):Int)) = ((8 + (i + 2 * k) % 4:Nat):Int):=by rw [zI (by omega) (by omega)];omega
   have e12:IntKind.wrap .i64 ((12:Int) + (((i + 3 * k) % 4:Nat):Int)) = ((12 + (i + 3 * k) % 4:Nat):Int):=by rw [zI (by omega) (by omega)];omega
   rw [hq,show decide ((i:Int) < 4) = true from decide_eq_true (by omega),g2,g3,f1,f2,f3,tm4,tm4,tm4,e4,e8,e12,zB (by omega)]
   simp only [nn,tn,cond_true,zX (show i < 16 by omega),zX (show 4 + (i + k) % 4 < 16 by omega),zX (show 8 + (i + 2 * k) % 4 < 16 by omega),zX (show 12 + (i + 3 * k) % 4 < 16 by omega),yG]
   rw [A90 _ _ _ _ (hy.g _) (hy.g _) (hy.g _) (hy.g _)]
   simp only [Option.bind_some,tM]
   rfl)
  y hy).1
theorem A5e (v8:List Int) (y:List Nat) (hy:Wd 16 y):
  uU R L v8 (cl y) 0 = uT R L v8 (cl (r10 y)) [] 0 ∧ Wd 16 (r10 y):=
 yL (fun (y:List Nat) i=>uU R L v8 (cl y) i) (fun _ y=>rk 1 (rk 0 y)) (fun _ y=>Wd 16 y) 10 (fun y=>uT R L v8 (cl y) [] 0)
  (fun y _=>by
   have hq:uU R L v8 (cl y) (10:Nat) = _:=round (by kernel_rfl) (Ag2 R L v8 (cl y) (10:Nat))
   show uU R L v8 (cl y) (10:Nat) = _
   rw [hq];rfl)
  (fun y i hi hy=>by
   have hq:uU R L v8 (cl y) (i:Nat) = _:=round (by kernel_rfl) (Ag2 R L v8 (cl y) (i:Nat))
   refine ⟨?_,Bf6 (Bf6 hy)⟩
   show uU R L v8 (cl y) (i:Nat) = _
   have q2:∀ (y:List Int) (v:Int) (w:Int),mY R L v8 y v w = _:=fun y v w=>round (by kernel_rfl) (A3C R L v8 y v w)
   have e0:=BD8 v8 0 (by decide) (i:Int) y hy
   have e1:=BD8 v8 1 (by decide) (i:Int) _ (Bf6 (k:=0) hy)
   rw [hq,show decide ((i:Int) < 10) = true from decide_eq_true (by omega)]
   simp only [cond_true]
   rw [q2,show decide ((0:Int) < 2) = true from by decide]
   simp only [cond_true]
   refine Eq.trans e0 ?_
   rw [q2,show decide (((0 + 1:Nat):Int) < 2) = true from by decide]
   simp only [cond_true]
   refine Eq.trans e1 ?_
   rw [q2,show decide (((1 + 1:Nat):Int) < 2) = false from by decide,zB (by omega)]
   rfl)
  y hy
theorem A7U (x y:List Nat) (hx:Wd 16 x) (hy:Wd 16 y):
  uT R L (cl x) (cl y) (ub []) 0 = some (ub (wK (stF x y) 16 0 []),()) ∧ (wK (stF x y) 16 0 []).length = 4 * 16:=
 yL (fun (o:List Nat) i=>uT R L (cl x) (cl y) (ub o) i) (stF x y) (fun i o=>o.length = 4 * i) 16 (fun o=>some (ub o,()))
  (fun o _=>by
   have hq:uT R L (cl x) (cl y) (ub o) (16:Nat) = _:=round (by kernel_rfl) (Ae7 R L (cl x) (cl y) (ub o) (16:Nat))
   show uT R L (cl x) (cl y) (ub o) (16:Nat) = _
   rw [hq];rfl)
  (fun o i hi ho=>by
   have hq:uT R L (cl x) (cl y) (ub o) (i:Nat) = _:=round (by kernel_rfl) (Ae7 R L (cl x) (cl y) (ub o) (i:Nat))
   have hl:=bC ((y.getD i 0 + x.getD i 0) % 4294967296) 4 (by decide)
   refine ⟨?_,by unfold stF;rw [List.length_append,ho,hl];omega⟩
   show uT R L (cl x) (cl y) (ub o) (i:Nat) = _
   have hul:∀ l:List Nat,(ub l).length = l.length:=fun l=>List.length_map _
   rw [hq,show decide ((i:Int) < 16) = true from decide_eq_true (by omega),zB (by omega)]
   simp only [nn,tn,cond_true,zX (show i < 16 from hi),yG,BU1]
   rw [rA (Nat.lt_trans (wU _) (by decide)),show vJ R _ 4 = _ from AN1 ((y.getD i 0 + x.getD i 0) % 4294967296) 4 (by decide)]
   simp only [Option.bind_some]
   rw [hul,hul,hl,vU (by omega)]
   simp only [cond_true]
   unfold stF ub
   rw [List.map_append])
  [] rfl
theorem A8J (V:List UInt8) (hV:V.length = 64) (y0:List Nat) (hy:y0.length = 16):
  tY R L V (cl y0) (cl y0) 0 = uU R L (cl (wK (fun i y=>y.set i (wLE V (4 * i))) 16 0 y0)) (cl (wK (fun i y=>y.set i (wLE V (4 * i))) 16 0 y0)) 0:=
 (yL (fun (y:List Nat) i=>tY R L V (cl y) (cl y) i) (fun i y=>y.set i (wLE V (4 * i))) (fun _ y=>y.length = 16) 16 (fun y=>uU R L (cl y) (cl y) 0)
  (fun y _=>by
   have hq:tY R L V (cl y) (cl y) (16:Nat) = _:=round (by kernel_rfl) (Ag4 R L V (cl y) (cl y) (16:Nat))
   show tY R L V (cl y) (cl y) (16:Nat) = _
   rw [hq];rfl)
  (fun y i hi hy=>by
   have hq:tY R L V (cl y) (cl y) (i:Nat) = _:=round (by kernel_rfl) (Ag4 R L V (cl y) (cl y) (i:Nat))
   refine ⟨?_,by rw [List.length_set];exact hy⟩
   show tY R L V (cl y) (cl y) (i:Nat) = _
   have e4:IntKind.wrap .i64 ((4:Int) * (i:Int)) = ((4 * i:Nat):Int):=by rw [zI (by omega) (by omega)];omega
   have hs:(y.set i (wLE V (4 * i))).getD i 0 = wLE V (4 * i):=by
    rw [List.getD_eq_getElem?_getD,List.getElem?_set,if_pos rfl,if_pos (by omega)];rfl
   rw [hq,show decide ((i:Int) < 16) = true from decide_eq_true (by omega),e4,zB (by omega)]
   simp only [nn,tn,cond_true]
   rw [A8B (Nat.le_refl _),A8B (show 4 * i ≤ V.length by omega),List.take_length,Ag1 _ (by rw [List.length_drop];omega),A6Y]
   simp only [cond_true,Option.bind_some]
   rw [zX (show i < 16 from hi),tM,yG,hs,tM]
   rfl)
  y0 hy).1
theorem BR2 (key nonce:List UInt8) (hk:key.length = 32) (hn:nonce.length = 12) (count:Nat) (hc:count < 4294967296):
  wK (fun i y=>y.set i (wLE (((exC ++ key) ++ ub (lit count 4)) ++ nonce) (4 * i))) 16 0 (List.replicate 16 0) = chI key nonce count:=by
 have hl:(ub (lit count 4)).length = 4:=by unfold ub;rw [List.length_map,bC _ _ (by decide)]
 have he:exC.length = 16:=rfl
 have h1:(exC ++ key).length = 48:=by rw [List.length_append];omega
 have h2:((exC ++ key) ++ ub (lit count 4)).length = 52:=by rw [List.length_append];omega
 show [wLE _ 0,wLE _ 4,wLE _ 8,wLE _ 12,wLE _ 16,wLE _ 20,wLE _ 24,wLE _ 28,wLE _ 32,wLE _ 36,wLE _ 40,wLE _ 44,wLE _ 48,wLE _ 52,wLE _ 56,wLE _ 60] = _
 have a0:∀ i,i + 3 < 16 → wLE (((exC ++ key) ++ ub (lit count 4)) ++ nonce) i = wLE exC i:=fun i hi=>by
  rw [AK8 (by omega),AK8 (by omega),AK8 (by omega)]
 have a1:∀ j,j + 3 < 32 → wLE (((exC ++ key) ++ ub (lit count 4)) ++ nonce) (16 + j) = wLE key j:=fun j hj=>by
  rw [AK8 (by omega),AK8 (by omega),A04 (j:=j) (by omega)]
 have a2:wLE (((exC ++ key) ++ ub (lit count 4)) ++ nonce) 48 = count:=by
  rw [AK8 (by omega),A04 (j:=0) (by omega),Bd7 _ hc]
 have a3:∀ j,wLE (((exC ++ key) ++ ub (lit count 4)) ++ nonce) (52 + j) = wLE nonce j:=fun j=>by
  rw [A04 (j:=j) (by omega)]
 rw [a0 0 (by decide),a0 4 (by decide),a0 8 (by decide),a0 12 (by decide),a1 0 (by decide),a1 4 (by decide),a1 8 (by decide),a1 12 (by decide),a1 16 (by decide),a1 20 (by decide),a1 24 (by decide),a1 28 (by decide),a2,a3 0,a3 4,a3 8]
 rfl
theorem A1K (key nonce:List UInt8) (hk:key.length = 32) (hn:nonce.length = 12) (count:Nat) (hc:count < 4294967296):
  bS R key nonce (count:Int) = some (ub (chO (chI key nonce count)),()) ∧ (ub (chO (chI key nonce count))).length = 64:=by
 have hq:bS R key nonce (count:Int) = _:=call (A7F R L key nonce (count:Int))
 have hl:(ub (lit count 4)).length = 4:=by unfold ub;rw [List.length_map,bC _ _ (by decide)]
 have he:exC.length = 16:=rfl
 have h1:(exC ++ key).length = 48:=by rw [List.length_append];omega
 have h2:((exC ++ key) ++ ub (lit count 4)).length = 52:=by rw [List.length_append];omega
 have hW:=Bm7 key nonce count hc
 obtain ⟨r1,r2⟩:=A5e (cl (chI key nonce count)) _ hW
 obtain ⟨b1,b2⟩:=A7U _ _ hW r2
 refine ⟨?_,by unfold ub;rw [List.length_map];exact b2⟩
 rw [hq,show vJ R (count:Int) 4 = _ from AN1 count 4 (by decide)]
 show cond (yT (exC.length + key.length)) (cond (yT ((exC ++ key).length + (ub (lit count 4)).length)) (cond (yT (((exC ++ key) ++ ub (lit count 4)).length + nonce.length)) (tY R L (((exC ++ key) ++ ub (lit count 4)) ++ nonce) (cl (List.replicate 16 0)) (cl (List.replicate 16 0)) 0) none) none) none = _
 rw [vU (by omega),vU (by omega),vU (by omega)]
 simp only [cond_true]
 rw [A8J _ (by rw [List.length_append];omega) _ rfl,BR2 key nonce hk hn count hc,r1]
 exact b1
end Go.Rf.S

end
section
namespace Go.Rf.S
set_option maxRecDepth 100000
theorem Bc0 (o:List Nat) (ho:o.length ≤ 1048576) (w:Nat):cW R (cl o) (w:Int) = some (cl (o ++ lit w 4),()):=by
 have hq:cW R (cl o) (w:Int) = _:=call (A2d R L (cl o) (w:Int))
 have m24:Min.min (Int.toNat 24) (IntKind.bits .i64) = 24:=rfl
 have m16:Min.min (Int.toNat 16) (IntKind.bits .i64) = 16:=rfl
 have m8:Min.min (Int.toNat 8) (IntKind.bits .i64) = 8:=rfl
 rw [hq,m24,m16,m8,jO,jO,jO,sO,sO,sO,sO,vU (by rw [fB];simp only [List.length_cons,List.length_nil];omega)]
 simp only [cond_true]
 rw [show [((w % 256:Nat):Int),((w / 2 ^ 8 % 256:Nat):Int),((w / 2 ^ 16 % 256:Nat):Int),((w / 2 ^ 24 % 256:Nat):Int)] = cl [w % 256,w / 2 ^ 8 % 256,w / 2 ^ 16 % 256,w / 2 ^ 24 % 256] from rfl,AX8]
 have:lit w 4 = [w / 2 ^ 0 % 256,w / 2 ^ 8 % 256,w / 2 ^ 16 % 256,w / 2 ^ 24 % 256]:=rfl
 rw [this,Nat.pow_zero,Nat.div_one]
theorem A4N (x y:List Nat) (hx:Wd 16 x) (hy:Wd 16 y):
  wN R L (cl x) (cl y) (cl []) 0 = some (ub (wK (stF x y) 16 0 []),()) ∧ (wK (stF x y) 16 0 []).length = 4 * 16:=
 yL (fun (o:List Nat) i=>wN R L (cl x) (cl y) (cl o) i) (stF x y) (fun i o=>o.length = 4 * i) 16 (fun o=>some (ub o,()))
  (fun o _=>by
   have hq:wN R L (cl x) (cl y) (cl o) (16:Nat) = _:=round (by kernel_rfl) (AP8 R L (cl x) (cl y) (cl o) (16:Nat))
   show wN R L (cl x) (cl y) (cl o) (16:Nat) = _
   rw [hq,show decide (((16:Nat):Int) < 16) = false from by decide,Ap4];rfl)
  (fun o i hi ho=>by
   have hq:wN R L (cl x) (cl y) (cl o) (i:Nat) = _:=round (by kernel_rfl) (AP8 R L (cl x) (cl y) (cl o) (i:Nat))
   have hl:=bC ((y.getD i 0 + x.getD i 0) % 4294967296) 4 (by decide)
   have ay:=hy.g i;have ax:=hx.g i
   refine ⟨?_,by unfold stF;rw [List.length_append,ho,hl];omega⟩
   show wN R L (cl x) (cl y) (cl o) (i:Nat) = _
   rw [hq,show decide ((i:Int) < 16) = true from decide_eq_true (by omega),zB (by omega)]
   simp only [nn,tn,cond_true,zX (show i < 16 from hi),yG]
   rw [At6 (by simp only [sJ];omega),m32 (by omega),Bc0 o (by omega)]
   rfl)
  [] rfl
theorem Az7 (key nonce:List UInt8) (hk:key.length = 32) (hn:nonce.length = 12) (count:Nat) (hc:count < 4294967296):
  oC R key nonce (count:Int) = some (ub (chO (chI key nonce count)),()):=by
 have hW:=Bm7 key nonce count hc
 obtain ⟨r1,r2⟩:=A4T (cl (chI key nonce count)) _ hW
 rw [Bl4 key nonce hk hn count,r1]
 exact (A4N _ _ hW r2).1
end Go.Rf.S

end
section
namespace Go.Rf.S
set_option maxRecDepth 100000
def bn (t:List UInt8):List Nat:=List.map UInt8.toNat t
theorem Br0 (t:List UInt8):List.map (fun b:UInt8=>((b.toNat:Nat):Int)) t = cl (bn t):=by
 unfold cl bn;rw [List.map_map];rfl
theorem BU9 (t:List UInt8):(bn t).length = t.length:=List.length_map _
theorem Bc8 (t:List UInt8) (i:Nat):(bn t).getD i 0 = bt t i:=by
 unfold bn bt
 rw [List.getD_eq_getElem?_getD,List.getD_eq_getElem?_getD,List.getElem?_map]
 cases t[i]? <;> rfl
theorem BA1 {a b:List UInt8} (hl:a.length = b.length) (h:∀ i,i < a.length → bt a i = bt b i):a = b:=by
 apply List.ext_getElem hl
 intro i h1 h2
 have:=h i h1
 unfold bt at this
 rw [List.getD_eq_getElem?_getD,List.getD_eq_getElem?_getD,List.getElem?_eq_getElem h1,List.getElem?_eq_getElem h2] at this
 exact UInt8.toNat_inj.1 this
theorem Bh3 {l:List Nat} {i:Nat} (h:l.getD i 0 < 256):bt (ub l) i = l.getD i 0:=by
 unfold bt ub
 rw [List.getD_eq_getElem?_getD,List.getD_eq_getElem?_getD,List.getElem?_map]
 rw [List.getD_eq_getElem?_getD] at h
 cases e:l[i]? with
 | none=>rfl
 | some x=>
  rw [e] at h
  have h:x < 256:=h
  show (UInt8.ofNat x).toNat = x
  rw [UInt8.toNat_ofNat']
  exact Nat.mod_eq_of_lt h
theorem AV8:∀ (a b:List UInt8),a.length ≤ b.length → (A8L a b).length = a.length
 | [],_,_=>rfl
 | x :: a,[],h=>by simp at h
 | x :: a,y :: b,h=>by
  show (A8L a b).length + 1 = _
  rw [AV8 a b (by simpa using h)];rfl
theorem AH5 (x:UInt8) (a:List UInt8) (i:Nat):bt (x :: a) (i + 1) = bt a i:=rfl
theorem A1X:∀ (a b:List UInt8) (i:Nat),i < a.length → a.length ≤ b.length → bt (A8L a b) i = bt a i ^^^ bt b i
 | [],_,_,h,_=>by simp at h
 | x :: a,[],_,_,h=>by simp at h
 | x :: a,y :: b,0,_,h=>by
  show (x ^^^ y).toNat = _
  exact UInt8.toNat_xor x y
 | x :: a,y :: b,i + 1,hi,h=>by
  show bt ((x ^^^ y) :: A8L a b) (i + 1) = _
  rw [AH5,AH5,AH5]
  exact A1X a b i (by simpa using hi) (by simpa using h)
def stX (b:List UInt8) (i:Nat) (y:List Nat):List Nat:=y.set i (y.getD i 0 ^^^ bt b i)
theorem BV7 {a b:Nat} (ha:a < 256) (hb:b < 256):a ^^^ b < 256:=Nat.xor_lt_two_pow (n:=8) ha hb
theorem Bt5 (a b:List UInt8) (h:a.length ≤ b.length) (hb:b.length ≤ 4294967296):A5E R a b = some (A8L a b,()):=by
 have hq:A5E R a b = _:=call (Ba4 R L a b)
 have hlp:=yL (fun (y:List Nat) i=>kW R L b (cl y) (a.length:Int) i) (stX b)
  (fun i y=>y.length = a.length ∧ ∀ j,y.getD j 0 = if j < i then bt a j ^^^ bt b j else bt a j) a.length (fun y=>some (ub y,()))
  (fun y _=>by
   have hq:kW R L b (cl y) (a.length:Int) (a.length:Nat) = _:=round (by kernel_rfl) (A2X R L b (cl y) (a.length:Int) (a.length:Nat))
   show kW R L b (cl y) (a.length:Int) (a.length:Nat) = _
   rw [hq,decide_eq_false (show ¬ ((a.length:Int) < (a.length:Int)) by omega),Ap4];rfl)
  (fun y i hi hy=>by
   obtain ⟨h1,h2⟩:=hy
   have hq:kW R L b (cl y) (a.length:Int) (i:Nat) = _:=round (by kernel_rfl) (A2X R L b (cl y) (a.length:Int) (i:Nat))
   have hyi:=h2 i
   rw [if_neg (Nat.lt_irrefl i)] at hyi
   refine ⟨?_,by unfold stX;rw [List.length_set];exact h1,fun j=>?_⟩
   ·show kW R L b (cl y) (a.length:Int) (i:Nat) = _
    rw [hq,decide_eq_true (show (i:Int) < (a.length:Int) by omega),zB (by omega)]
    simp only [nn,tn,cond_true,fB,h1,zX hi,zX (show i < b.length by omega),yG]
    have e:xH .xor .u8 ((y.getD i 0:Nat):Int) (((b.getD i 0).toNat:Nat):Int) = ((y.getD i 0 ^^^ bt b i:Nat):Int):=A0w (k:=.u8) (by rw [hyi];exact qB a i) (qB b i)
    rw [e,tM]
    rfl
   ·unfold stX
    by_cases hj:j = i
    ·subst hj
     rw [if_pos (Nat.lt_succ_self _),List.getD_eq_getElem?_getD,List.getElem?_set,if_pos rfl,if_pos (by omega),hyi];rfl
    ·rw [List.getD_eq_getElem?_getD,List.getElem?_set,if_neg (fun e=>hj e.symm),← List.getD_eq_getElem?_getD,h2 j]
     by_cases hji:j < i
     ·rw [if_pos hji,if_pos (by omega)]
     ·rw [if_neg hji,if_neg (by omega)])
  (bn a) ⟨BU9 a,fun j=>by rw [if_neg (by omega),Bc8]⟩
 obtain ⟨e1,e2,e3⟩:=hlp
 rw [hq,Br0,fB,BU9]
 refine Eq.trans e1 ?_
 refine congrArg (fun x=>some (x,())) ?_
 apply BA1
 ·unfold ub;rw [List.length_map,e2,AV8 a b h]
 ·intro i hi
  have hi':i < a.length:=by unfold ub at hi;rw [List.length_map,e2] at hi;exact hi
  have hv:=e3 i
  rw [if_pos hi'] at hv
  rw [Bh3 (by rw [hv];exact BV7 (qB _ _) (qB _ _)),hv,A1X a b i hi' h]
theorem AT3 {key nonce:List UInt8} (hk:key.length = 32) (hn:nonce.length = 12) {count:Nat} (hc:count < 4294967296):(chB key nonce count).length = 64:=by
 unfold chB;exact (A1K key nonce hk hn count hc).2
theorem Ak4 (key nonce:List UInt8) (hk:key.length = 32) (hn:nonce.length = 12):∀ (n count:Nat) (t:List UInt8),t.length ≤ 64 * n → count + n < 4294967296 →
  (chX key nonce n count t).length = t.length ∧ ∀ i,i < t.length → bt (chX key nonce n count t) i = bt t i ^^^ bt (chB key nonce (count + i / 64)) (i % 64)
 | 0,count,t,ht,_=>by
  have:t.length = 0:=by omega
  exact ⟨by rw [this];rfl,fun i hi=>by omega⟩
 | n + 1,count,t,ht,hc=>by
  unfold chX
  by_cases h0:t = []
  ·subst h0
   rw [if_pos rfl]
   exact ⟨rfl,fun i hi=>by simp at hi⟩
  ·rw [if_neg h0]
   have hB:(chB key nonce count).length = 64:=AT3 hk hn (by omega)
   have hx:(A8L (t.take 64) (chB key nonce count)).length = (t.take 64).length:=AV8 _ _ (by rw [List.length_take];omega)
   obtain ⟨r1,r2⟩:=Ak4 key nonce hk hn n (count + 1) (t.drop 64) (by rw [List.length_drop];omega) (by omega)
   have htk:(t.take 64).length = min 64 t.length:=List.length_take
   refine ⟨by rw [List.length_append,hx,r1,List.length_drop,htk];omega,fun i hi=>?_⟩
   by_cases hi64:i < 64
   ·rw [Ad2 (by rw [hx,htk];omega),A1X _ _ _ (by rw [htk];omega) (by rw [htk];omega),show i / 64 = 0 by omega,show i % 64 = i by omega]
    have:bt (t.take 64) i = bt t i:=by unfold bt;rw [bW t hi64]
    rw [this];rfl
   ·rw [Ab1 (by rw [hx,htk];omega),hx,htk,show min 64 t.length = 64 by omega,r2 (i - 64) (by rw [List.length_drop];omega)]
    have e1:bt (t.drop 64) (i - 64) = bt t i:=by unfold bt;rw [List.getD_eq_getElem?_getD,List.getD_eq_getElem?_getD,List.getElem?_drop,show 64 + (i - 64) = i by omega]
    rw [e1,show count + 1 + (i - 64) / 64 = count + i / 64 by omega,show (i - 64) % 64 = i % 64 by omega]
def B0 (key nonce:List UInt8) (count i:Nat):List UInt8:=chB key nonce (count + i / 64)
def stQ (key nonce:List UInt8) (count:Nat) (t:List UInt8) (i:Nat) (s:List Nat × List UInt8):List Nat × List UInt8:=
 (s.1 ++ [bt t i ^^^ bt (if i % 64 = 0 then B0 key nonce count i else s.2) (i % 64)],if i % 64 = 0 then B0 key nonce count i else s.2)
theorem BH1 (key nonce:List UInt8) (hk:key.length = 32) (hn:nonce.length = 12) (count:Nat) (t:List UInt8) (ht:t.length ≤ 1073741824) (hc:count ≤ 1024):
  aA R key nonce (count:Int) t = some (chX key nonce (t.length / 64 + 1) count t,()):=by
 have hq:aA R key nonce (count:Int) t = _:=call (A7w R L key nonce (count:Int) t)
 have hB:∀ i,i ≤ t.length → (B0 key nonce count i).length = 64:=fun i hi=>AT3 hk hn (by omega)
 have hlp:=yL (fun (s:List Nat × List UInt8) i=>rF R L key nonce (count:Int) t (cl s.1) s.2 i) (stQ key nonce count t)
  (fun i s=>s.1.length = i ∧ (i % 64 ≠ 0 → s.2 = B0 key nonce count i) ∧ ∀ j,j < i → s.1.getD j 0 = bt t j ^^^ bt (B0 key nonce count j) (j % 64)) t.length (fun s=>some (ub s.1,()))
  (fun s _=>by
   have hq:rF R L key nonce (count:Int) t (cl s.1) s.2 (t.length:Nat) = _:=round (by kernel_rfl) (Ah4 R L key nonce (count:Int) t (cl s.1) s.2 (t.length:Nat))
   show rF R L key nonce (count:Int) t (cl s.1) s.2 (t.length:Nat) = _
   rw [hq,decide_eq_false (show ¬ ((t.length:Int) < (t.length:Int)) by omega),Ap4];rfl)
  (fun s i hi hs=>by
   obtain ⟨h1,h2,h3⟩:=hs
   have hq:rF R L key nonce (count:Int) t (cl s.1) s.2 (i:Nat) = _:=round (by kernel_rfl) (Ah4 R L key nonce (count:Int) t (cl s.1) s.2 (i:Nat))
   have hBi:=hB i (by omega)
   have em:Int.tmod (i:Int) 64 = ((i % 64:Nat):Int):=BA6 i 64
   have ed:Int.tdiv (i:Int) 64 = ((i / 64:Nat):Int):=rfl
   have hm:i % 64 < 64:=Nat.mod_lt _ (by decide)
   have bx:∀ (B:List UInt8),xH .xor .u8 (((t.getD i 0).toNat:Nat):Int) (((B.getD (i % 64) 0).toNat:Nat):Int) = ((bt t i ^^^ bt B (i % 64):Nat):Int):=fun B=>A0w (k:=.u8) (qB t i) (qB B _)
   have hcase:(if i % 64 = 0 then B0 key nonce count i else s.2) = B0 key nonce count i:=by
    by_cases h0:i % 64 = 0
    ·rw [if_pos h0]
    ·rw [if_neg h0,h2 h0]
   refine ⟨?_,?_,?_,?_⟩
   ·show rF R L key nonce (count:Int) t (cl s.1) s.2 (i:Nat) = _
    rw [hq,decide_eq_true (show (i:Int) < (t.length:Int) by omega),em,ed]
    unfold stQ
    rw [hcase]
    by_cases h0:i % 64 = 0
    ·rw [show eqI ((i % 64:Nat):Int) 0 = true from by rw [wY];exact decide_eq_true (by omega),rA (n:=i / 64) (by omega),At6 (by simp only [sJ];omega),show oC R key nonce ((count + i / 64:Nat):Int) = some (B0 key nonce count i,()) from Az7 key nonce hk hn _ (by omega)]
     simp only [nn,tn,cond_true,Option.bind_some]
     rw [zX hi,hBi,zX hm,vU (by rw [fB];simp only [List.length_cons,List.length_nil];omega),bx,zB (by omega)]
     simp only [cond_true]
     rw [show [((bt t i ^^^ bt (B0 key nonce count i) (i % 64):Nat):Int)] = cl [bt t i ^^^ bt (B0 key nonce count i) (i % 64)] from rfl,AX8]
    ·rw [show eqI ((i % 64:Nat):Int) 0 = false from by rw [wY];exact decide_eq_false (by omega),h2 h0]
     simp only [nn,tn,cond_true,cond_false]
     rw [zX hi,hBi,zX hm,vU (by rw [fB];simp only [List.length_cons,List.length_nil];omega),bx,zB (by omega)]
     simp only [cond_true]
     rw [show [((bt t i ^^^ bt (B0 key nonce count i) (i % 64):Nat):Int)] = cl [bt t i ^^^ bt (B0 key nonce count i) (i % 64)] from rfl,AX8]
   ·unfold stQ;rw [List.length_append,h1];rfl
   ·intro h0
    unfold stQ
    rw [hcase]
    unfold B0
    rw [show (i + 1) / 64 = i / 64 by omega]
   ·intro j hj
    unfold stQ
    rw [hcase]
    by_cases hji:j = i
    ·subst hji
     rw [List.getD_eq_getElem?_getD,List.getElem?_append_right (by omega),h1,Nat.sub_self];rfl
    ·rw [List.getD_eq_getElem?_getD,List.getElem?_append_left (by omega),← List.getD_eq_getElem?_getD]
     exact h3 j (by omega))
  ([],[]) ⟨rfl,fun h=>absurd rfl h,fun j hj=>by omega⟩
 obtain ⟨e1,e2,_,e3⟩:=hlp
 obtain ⟨r1,r2⟩:=Ak4 key nonce hk hn (t.length / 64 + 1) count t (by omega) (by omega)
 rw [hq]
 refine Eq.trans e1 ?_
 refine congrArg (fun x=>some (x,())) ?_
 have hul:∀ l:List Nat,(ub l).length = l.length:=fun l=>List.length_map _
 apply BA1
 ·rw [hul,e2,r1]
 ·intro i hi
  rw [hul,e2] at hi
  have hv:=e3 i hi
  rw [Bh3 (by rw [hv];exact BV7 (qB _ _) (qB _ _)),hv,r2 i hi]
  rfl
end Go.Rf.S

end
section

end
section
namespace Go.Rf.S
set_option maxRecDepth 100000
theorem A8S {x:List Nat} (h:x.length = 5):x = [x.getD 0 0,x.getD 1 0,x.getD 2 0,x.getD 3 0,x.getD 4 0]:=by
 match x,h with
 | [a,b,c,d,e],_=>rfl
def crd (x:List Nat):List Nat:=car (x.getD 0 0) (x.getD 1 0) (x.getD 2 0) (x.getD 3 0) (x.getD 4 0)
def CAR (x:List Nat):List Nat:=crd (crd (crd x))
def vl (x:List Nat):Nat:=val (x.getD 0 0) (x.getD 1 0) (x.getD 2 0) (x.getD 3 0) (x.getD 4 0)
structure Can (x:List Nat):Prop where
 l:x.length = 5
 b:Bd 67108864 x
theorem bd5 {B a b c d e:Nat} (ha:a < B) (hb:b < B) (hc:c < B) (hd:d < B) (he:e < B):Bd B [a,b,c,d,e]:=fun x hx=>by
 simp only [List.mem_cons,List.not_mem_nil,or_false] at hx
 rcases hx with rfl | rfl | rfl | rfl | rfl <;> assumption
theorem A2L {x:List Nat} (h:x.length = 5) (hb:Bd 288230376151711744 x):Can (CAR x) ∧ vl (CAR x) % PP = vl x % PP ∧ (crd x).length = 5 ∧ Bd 1152921504606846976 (crd x) ∧ (crd (crd x)).length = 5 ∧ Bd 1152921504606846976 (crd (crd x)):=by
 have g:=fun i=>hb.get (by decide) i
 obtain ⟨a1,b1,c1,d1,e1,a2,b2,c2,d2,e2,a3,b3,c3,d3,e3,h1,h2,h3,hv,q0,q1,q2,q3,q4,r0,r1,r2,r3,r4,s0,s1,s2,s3,s4⟩:=Bx9 (x.getD 0 0) (x.getD 1 0) (x.getD 2 0) (x.getD 3 0) (x.getD 4 0) (g 0) (g 1) (g 2) (g 3) (g 4)
 have e1:crd x = [a1,b1,c1,d1,e1]:=h1
 have e2:crd (crd x) = [a2,b2,c2,d2,e2]:=by rw [e1];exact h2
 have e3:CAR x = [a3,b3,c3,d3,e3]:=by unfold CAR;rw [e2];exact h3
 refine ⟨⟨by rw [e3];rfl,by rw [e3];exact bd5 q0 q1 q2 q3 q4⟩,by rw [e3];exact hv,by rw [e1];rfl,?_,by rw [e2];rfl,?_⟩
 ·rw [e1];exact bd5 r0 (by omega) (by omega) (by omega) (by omega)
 ·rw [e2];exact bd5 s0 (by omega) (by omega) (by omega) (by omega)
theorem BW9 {x:List Nat} (h:Can x):CAR x = x:=by
 have g:=fun i=>h.b.get (by decide) i
 have e:crd x = x:=by
  have:=Bk8 (g 0) (g 1) (g 2) (g 3) (g 4)
  exact this.trans (A8S h.l).symm
 unfold CAR
 rw [e,e,e]
theorem BQ4 (l:List Nat) (i a:Nat) (z:Int) (h:z = (a:Int)):(cl l).set i z = cl (l.set i a):=by rw [h,tM]
def Bv9 (i:Nat) (s:List Nat × Nat):List Nat × Nat:=(s.1.set i ((s.1.getD i 0 + s.2) % 67108864),(s.1.getD i 0 + s.2) / 67108864)
theorem AD0 (v2:List Int) (j:Int) (x:List Nat) (hx:x.length = 5) (hb:Bd 1152921504606846976 x):
  xO R L (cl x) v2 (0:Int) j (0:Int) = uY R L (cl (crd x)) v2 (IntKind.wrap .i64 (j + 1)):=by
 have:=(yL (fun (s:List Nat × Nat) i=>xO R L (cl s.1) v2 (s.2:Int) j i) Bv9
  (fun i s=>s.1.length = 5 ∧ Bd 1152921504606846976 s.1 ∧ s.2 < 68719476736) 5
  (fun s=>uY R L (cl (s.1.set 0 (s.1.getD 0 0 + 5 * s.2))) v2 (IntKind.wrap .i64 (j + 1)))
  (fun s hs=>by
   obtain ⟨h1,h2,h3⟩:=hs
   have hq:xO R L (cl s.1) v2 (s.2:Int) j (5:Nat) = _:=round (by kernel_rfl) (dB R L (cl s.1) v2 (s.2:Int) j (5:Nat))
   have hg:=h2.get (by decide) 0
   show xO R L (cl s.1) v2 (s.2:Int) j (5:Nat) = _
   rw [hq,show decide (((5:Nat):Int) < 5) = false from by decide]
   simp only [cond_false]
   rw [BQ4 _ _ (s.1.getD 0 0 + 5 * s.2)]
   ·rfl
   ·show IntKind.wrap .u64 ((cl s.1).getD 0 0 + IntKind.wrap .u64 (5 * (s.2:Int))) = _
    rw [yG,A1F,A1F]
    omega)
  (fun s i hi hs=>by
   obtain ⟨h1,h2,h3⟩:=hs
   have hq:xO R L (cl s.1) v2 (s.2:Int) j (i:Nat) = _:=round (by kernel_rfl) (dB R L (cl s.1) v2 (s.2:Int) j (i:Nat))
   have hg:=h2.get (by decide) i
   refine ⟨?_,by simp [Bv9,h1],h2.set (Nat.lt_of_lt_of_le (Nat.mod_lt _ (by decide)) (by decide)),?_⟩
   ·show xO R L (cl s.1) v2 (s.2:Int) j (i:Nat) = _
    have hw:IntKind.wrap .u64 ((cl s.1).getD i 0 + (s.2:Int)) = ((s.1.getD i 0 + s.2:Nat):Int):=by
     rw [yG,A1F];omega
    have hgs:((cl s.1).set i ((s.1.getD i 0 + s.2:Nat):Int)).getD i 0 = ((s.1.getD i 0 + s.2:Nat):Int):=by
     rw [tM,yG,List.getD_eq_getElem?_getD,List.getElem?_set]
     simp [h1,hi]
    rw [hq,show decide ((i:Int) < 5) = true from decide_eq_true (by omega),nn,tn,zX (n:=5) hi]
    simp only [cond_true]
    rw [hw,hgs,zB (by omega),List.set_set,show xH .and .u64 ((s.1.getD i 0 + s.2:Nat):Int) 67108863 = (((s.1.getD i 0 + s.2) % 67108864:Nat):Int) from by
     rw [show (67108863:Int) = ((67108863:Nat):Int) from rfl,AT6 (by simp only [sJ];omega) (by decide),BD9],tM]
    rw [show Int.fdiv ((s.1.getD i 0 + s.2:Nat):Int) (2 ^ Min.min (Int.toNat 26) (IntKind.bits .u64)) = (((s.1.getD i 0 + s.2) / 67108864:Nat):Int) from jO _ 26]
    rfl
   ·show (s.1.getD i 0 + s.2) / 67108864 < 68719476736
    omega)
  (x,0) ⟨hx,hb,(by decide:(0:Nat) < 68719476736)⟩).1
 refine this.trans ?_
 obtain ⟨a,b,c,d,e,rfl⟩:∃ a b c d e,x = [a,b,c,d,e]:=⟨_,_,_,_,_,A8S hx⟩
 rfl
theorem AT4 (x:List Nat) (hx:x.length = 5) (hb:Bd 288230376151711744 x):wG R (cl x) = some (cl (CAR x),()):=by
 have hq:wG R (cl x) = _:=call (Ac4 R L (cl x))
 obtain ⟨_,_,l1,b1,l2,b2⟩:=A2L hx hb
 have b0:Bd 1152921504606846976 x:=fun y hy=>Nat.lt_of_lt_of_le (hb y hy) (by decide)
 have q0:∀ (y:List Int) (v2:List Int) (j:Int),uY R L y v2 j = _:=fun y v2 j=>round (by kernel_rfl) (AS8 R L y v2 j)
 rw [hq,q0,show decide ((0:Int) < 3) = true from rfl]
 simp only [cond_true]
 rw [AD0 _ _ x hx b0,q0,show decide (IntKind.wrap .i64 ((0:Int) + 1) < 3) = true from by decide]
 simp only [cond_true]
 rw [AD0 _ _ _ l1 b1,q0,show decide (IntKind.wrap .i64 (IntKind.wrap .i64 ((0:Int) + 1) + 1) < 3) = true from by decide]
 simp only [cond_true]
 rw [AD0 _ _ _ l2 b2,q0,show decide (IntKind.wrap .i64 (IntKind.wrap .i64 (IntKind.wrap .i64 ((0:Int) + 1) + 1) + 1) < 3) = false from by decide]
 rfl
end Go.Rf.S

end
section
namespace Go.Rf.S
set_option maxRecDepth 100000
theorem mJ {l:List Nat} {i j a:Nat} (h:i ≠ j):(l.set i a).getD j 0 = l.getD j 0:=by
 rw [List.getD_eq_getElem?_getD,List.getD_eq_getElem?_getD,List.getElem?_set,if_neg h]
theorem vP {k:IntKind} {a b:Nat} (h:a + b < sJ k):IntKind.wrap k ((a:Int) + (b:Int)) = ((a + b:Nat):Int):=by
 rw [show (a:Int) + (b:Int) = ((a + b:Nat):Int) from by omega,AZ5 h]
theorem gS {k:IntKind} {a b:Nat} (h:a * b < sJ k):IntKind.wrap k ((a:Int) * (b:Int)) = ((a * b:Nat):Int):=by
 rw [show (a:Int) * (b:Int) = ((a * b:Nat):Int) from by simp,AZ5 h]
theorem m26 {k:IntKind} {a:Nat} (h:a < sJ k) (hk:67108863 < sJ k):xH .and k (a:Int) 67108863 = ((a % 67108864:Nat):Int):=by
 rw [show (67108863:Int) = ((67108863:Nat):Int) from rfl,AT6 h hk,BD9]
def Bm5 (i:Nat) (x:List Nat):List Nat:=(x.set (i + 1) (x.getD (i + 1) 0 + x.getD i 0 / 67108864)).set i (x.getD i 0 % 67108864)
theorem AC3 (v2:List Int) (j:Int) (x:List Nat) (hx:x.length = 5) (hb:Bd 1152921504606846976 x):
  uK R L (cl x) v2 j (0:Int) = pO R L (cl (crd x)) v2 (IntKind.wrap .i64 (j + 1)):=by
 have:=(yL (fun (x:List Nat) i=>uK R L (cl x) v2 j i) Bm5
  (fun i x=>x.length = 5 ∧ Bd (1152921504606846976 + i * 1099511627776) x) 4
  (fun x=>pO R L (cl ((x.set 0 (x.getD 0 0 + 5 * (x.getD 4 0 / 67108864))).set 4 (x.getD 4 0 % 67108864))) v2 (IntKind.wrap .i64 (j + 1)))
  (fun x hs=>by
   obtain ⟨h1,h2⟩:=hs
   have hq:uK R L (cl x) v2 j (4:Nat) = _:=round (by kernel_rfl) (AP6 R L (cl x) v2 j (4:Nat))
   have hg:=h2.get (by decide) 0
   have hg4:=h2.get (by decide) 4
   show uK R L (cl x) v2 j (4:Nat) = _
   rw [hq,show decide (((4:Nat):Int) < 4) = false from by decide]
   simp only [cond_false]
   have e0:Int.toNat 0 = 0:=rfl
   have e4:Int.toNat 4 = 4:=rfl
   have ed:Int.fdiv ((cl x).getD 4 0) (2 ^ Min.min (Int.toNat 26) (IntKind.bits .i64)) = ((x.getD 4 0 / 67108864:Nat):Int):=by rw [yG];exact jO _ 26
   have ew:IntKind.wrap .i64 ((cl x).getD 0 0 + IntKind.wrap .i64 (5 * ((x.getD 4 0 / 67108864:Nat):Int))) = ((x.getD 0 0 + 5 * (x.getD 4 0 / 67108864):Nat):Int):=by
    rw [show (5:Int) = ((5:Nat):Int) from rfl,gS (by simp only [sJ];omega),yG,vP (by simp only [sJ];omega)]
   rw [e0,e4,ed,ew,tM,yG,mJ (by decide),m26 (by simp only [sJ];omega) (by decide),tM])
  (fun x i hi hs=>by
   obtain ⟨h1,h2⟩:=hs
   have hq:uK R L (cl x) v2 j (i:Nat) = _:=round (by kernel_rfl) (AP6 R L (cl x) v2 j (i:Nat))
   have hpos:0 < 1152921504606846976 + i * 1099511627776:=by omega
   have hg:=h2.get hpos i
   have hg1:=h2.get hpos (i + 1)
   have hmono:Bd (1152921504606846976 + (i + 1) * 1099511627776) x:=fun y hy=>Nat.lt_of_lt_of_le (h2 y hy) (by omega)
   refine ⟨?_,by simp [Bm5,h1],(hmono.set (by omega)).set (Nat.lt_of_lt_of_le (Nat.mod_lt _ (by decide)) (by omega))⟩
   show uK R L (cl x) v2 j (i:Nat) = _
   have ed:Int.fdiv ((cl x).getD i 0) (2 ^ Min.min (Int.toNat 26) (IntKind.bits .i64)) = ((x.getD i 0 / 67108864:Nat):Int):=by rw [yG];exact jO _ 26
   rw [hq,show decide ((i:Int) < 4) = true from decide_eq_true (by omega),zB (by omega),nn,tn,nn,tn,zX (n:=5) (show i + 1 < 5 by omega),zX (n:=5) (show i < 5 by omega)]
   simp only [cond_true]
   rw [ed,yG,vP (by simp only [sJ];omega),tM,yG,mJ (by omega),m26 (by simp only [sJ];omega) (by decide),tM]
   rfl)
  x ⟨hx,by simpa using hb⟩).1
 refine this.trans ?_
 obtain ⟨a,b,c,d,e,rfl⟩:∃ a b c d e,x = [a,b,c,d,e]:=⟨_,_,_,_,_,A8S hx⟩
 rfl
theorem A3O (x:List Nat) (hx:x.length = 5) (hb:Bd 288230376151711744 x):mQ R (cl x) = some (cl (CAR x),()):=by
 have hq:mQ R (cl x) = _:=call (A30 R L (cl x))
 obtain ⟨_,_,l1,b1,l2,b2⟩:=A2L hx hb
 have b0:Bd 1152921504606846976 x:=fun y hy=>Nat.lt_of_lt_of_le (hb y hy) (by decide)
 have q0:∀ (y:List Int) (v2:List Int) (j:Int),pO R L y v2 j = _:=fun y v2 j=>round (by kernel_rfl) (At7 R L y v2 j)
 rw [hq,q0,show decide ((0:Int) < 3) = true from rfl]
 simp only [cond_true]
 rw [AC3 _ _ x hx b0,q0,show decide (IntKind.wrap .i64 ((0:Int) + 1) < 3) = true from by decide]
 simp only [cond_true]
 rw [AC3 _ _ _ l1 b1,q0,show decide (IntKind.wrap .i64 (IntKind.wrap .i64 ((0:Int) + 1) + 1) < 3) = true from by decide]
 simp only [cond_true]
 rw [AC3 _ _ _ l2 b2,q0,show decide (IntKind.wrap .i64 (IntKind.wrap .i64 (IntKind.wrap .i64 ((0:Int) + 1) + 1) + 1) < 3) = false from by decide]
 rfl
def TIM (x y : List Nat) : List Nat :=
  [x.getD 0 0 * y.getD 0 0 + 5 * (x.getD 1 0 * y.getD 4 0) + 5 * (x.getD 2 0 * y.getD 3 0) + 5 * (x.getD 3 0 * y.getD 2 0) + 5 * (x.getD 4 0 * y.getD 1 0),
   x.getD 0 0 * y.getD 1 0 + x.getD 1 0 * y.getD 0 0 + 5 * (x.getD 2 0 * y.getD 4 0) + 5 * (x.getD 3 0 * y.getD 3 0) + 5 * (x.getD 4 0 * y.getD 2 0),
   x.getD 0 0 * y.getD 2 0 + x.getD 1 0 * y.getD 1 0 + x.getD 2 0 * y.getD 0 0 + 5 * (x.getD 3 0 * y.getD 4 0) + 5 * (x.getD 4 0 * y.getD 3 0),
   x.getD 0 0 * y.getD 3 0 + x.getD 1 0 * y.getD 2 0 + x.getD 2 0 * y.getD 1 0 + x.getD 3 0 * y.getD 0 0 + 5 * (x.getD 4 0 * y.getD 4 0),
   x.getD 0 0 * y.getD 4 0 + x.getD 1 0 * y.getD 3 0 + x.getD 2 0 * y.getD 2 0 + x.getD 3 0 * y.getD 1 0 + x.getD 4 0 * y.getD 0 0]
theorem BC0 (x y:List Nat):(TIM x y).length = 5:=rfl
theorem BS1 (x y:List Nat):vl (TIM x y) % PP = (vl x * vl y) % PP:=by
 obtain ⟨q,h⟩:=Bb4 (x.getD 0 0) (x.getD 1 0) (x.getD 2 0) (x.getD 3 0) (x.getD 4 0) (y.getD 0 0) (y.getD 1 0) (y.getD 2 0) (y.getD 3 0) (y.getD 4 0)
 show val _ _ _ _ _ % PP = (val _ _ _ _ _ * val _ _ _ _ _) % PP
 rw [h,Nat.add_mul_mod_self_right]
 rfl
theorem BM4 {a b:Nat} (ha:a < 134217728) (hb:b < 67108864):a * b < 9007199254740992:=by
 have:a * b ≤ a * 67108864:=Nat.mul_le_mul_left _ (by omega)
 omega
theorem A59 {x y:List Nat} (hx:Bd 134217728 x) (hy:Bd 67108864 y):Bd 288230376151711744 (TIM x y):=by
 have p:=fun i j=>BM4 (hx.get (by decide) i) (hy.get (by decide) j)
 have p00:=p 0 0;have p01:=p 0 1;have p02:=p 0 2;have p03:=p 0 3;have p04:=p 0 4
 have p10:=p 1 0;have p11:=p 1 1;have p12:=p 1 2;have p13:=p 1 3;have p14:=p 1 4
 have p20:=p 2 0;have p21:=p 2 1;have p22:=p 2 2;have p23:=p 2 3;have p24:=p 2 4
 have p30:=p 3 0;have p31:=p 3 1;have p32:=p 3 2;have p33:=p 3 3;have p34:=p 3 4
 have p40:=p 4 0;have p41:=p 4 1;have p42:=p 4 2;have p43:=p 4 3;have p44:=p 4 4
 exact bd5 (by omega) (by omega) (by omega) (by omega) (by omega)
def stT (x y:List Nat) (i k:Nat) (o:List Nat):List Nat:=
 if i + k < 5 then o.set (i + k) (o.getD (i + k) 0 + x.getD i 0 * y.getD k 0) else o.set (i + k - 5) (o.getD (i + k - 5) 0 + 5 * (x.getD i 0 * y.getD k 0))
def BI6 (i k:Nat) (o:List Nat):Prop:=o.length = 5 ∧ Bd (1 + (5 * i + k) * 45035996273704960) o
theorem A8r {x y o:List Nat} {i k:Nat} (hx:Bd 134217728 x) (hy:Bd 67108864 y) (h:BI6 i k o):BI6 i (k + 1) (stT x y i k o):=by
 obtain ⟨h1,h2⟩:=h
 have hp:=BM4 (hx.get (by decide) i) (hy.get (by decide) k)
 have hpos:0 < 1 + (5 * i + k) * 45035996273704960:=by omega
 have hmono:Bd (1 + (5 * i + (k + 1)) * 45035996273704960) o:=fun z hz=>Nat.lt_of_lt_of_le (h2 z hz) (by omega)
 unfold stT
 split
 ·have:=h2.get hpos (i + k)
  exact ⟨by simp [h1],hmono.set (by omega)⟩
 ·have:=h2.get hpos (i + k - 5)
  exact ⟨by simp [h1],hmono.set (by omega)⟩
theorem BV3 (x y : List Nat) : wK (fun i o => wK (stT x y i) 5 0 o) 5 0 (List.replicate 5 0) = TIM x y := by
  have e : wK (fun i o => wK (stT x y i) 5 0 o) 5 0 (List.replicate 5 0) =
    [0 + x.getD 0 0 * y.getD 0 0 + 5 * (x.getD 1 0 * y.getD 4 0) + 5 * (x.getD 2 0 * y.getD 3 0) + 5 * (x.getD 3 0 * y.getD 2 0) + 5 * (x.getD 4 0 * y.getD 1 0),
     0 + x.getD 0 0 * y.getD 1 0 + x.getD 1 0 * y.getD 0 0 + 5 * (x.getD 2 0 * y.getD 4 0) + 5 * (x.getD 3 0 * y.getD 3 0) + 5 * (x.getD 4 0 * y.getD 2 0),
     0 + x.getD 0 0 * y.getD 2 0 + x.getD 1 0 * y.getD 1 0 + x.getD 2 0 * y.getD 0 0 + 5 * (x.getD 3 0 * y.getD 4 0) + 5 * (x.getD 4 0 * y.getD 3 0),
     0 + x.getD 0 0 * y.getD 3 0 + x.getD 1 0 * y.getD 2 0 + x.getD 2 0 * y.getD 1 0 + x.getD 3 0 * y.getD 0 0 + 5 * (x.getD 4 0 * y.getD 4 0),
     0 + x.getD 0 0 * y.getD 4 0 + x.getD 1 0 * y.getD 3 0 + x.getD 2 0 * y.getD 2 0 + x.getD 3 0 * y.getD 1 0 + x.getD 4 0 * y.getD 0 0] := by kernel_rfl
  rw [e]
  simp only [Nat.zero_add]
  rfl
end Go.Rf.S

end
section
namespace Go.Rf.S
set_option maxRecDepth 100000
theorem A0e (x y:List Nat) (v3:List Int) (v4:List Int) (i:Nat) (hi:i < 5) (hx:Bd 134217728 x) (hy:Bd 67108864 y) (o:List Nat) (ho:BI6 i 0 o):
  xU R L v3 v4 (cl o) (i:Int) ((x.getD i 0:Nat):Int) (cl x) (i:Int) (cl y) (0:Int) = xV R L v3 v4 (cl (wK (stT x y i) 5 0 o)) (cl x) ((i + 1:Nat):Int) ∧ BI6 (i + 1) 0 (wK (stT x y i) 5 0 o):=by
 have:=yL (fun (o:List Nat) k=>xU R L v3 v4 (cl o) (i:Int) ((x.getD i 0:Nat):Int) (cl x) (i:Int) (cl y) k) (stT x y i) (BI6 i) 5
  (fun o=>xV R L v3 v4 (cl o) (cl x) ((i + 1:Nat):Int))
  (fun o hs=>by
   have hq:xU R L v3 v4 (cl o) (i:Int) ((x.getD i 0:Nat):Int) (cl x) (i:Int) (cl y) (5:Nat) = _:=round (by kernel_rfl) (bT R L v3 v4 (cl o) (i:Int) _ (cl x) (i:Int) (cl y) (5:Nat))
   show xU R L v3 v4 (cl o) (i:Int) ((x.getD i 0:Nat):Int) (cl x) (i:Int) (cl y) (5:Nat) = _
   rw [hq,show decide (((5:Nat):Int) < 5) = false from by decide,zB (i:=i) (by omega)]
   rfl)
  (fun o k hk hs=>by
   refine ⟨?_,A8r hx hy hs⟩
   have hq:xU R L v3 v4 (cl o) (i:Int) ((x.getD i 0:Nat):Int) (cl x) (i:Int) (cl y) (k:Nat) = _:=round (by kernel_rfl) (bT R L v3 v4 (cl o) (i:Int) _ (cl x) (i:Int) (cl y) (k:Nat))
   show xU R L v3 v4 (cl o) (i:Int) ((x.getD i 0:Nat):Int) (cl x) (i:Int) (cl y) (k:Nat) = _
   have hp:=BM4 (hx.get (by decide) i) (hy.get (by decide) k)
   have hxi:=hx.get (by decide) i
   have hpos:0 < 1 + (5 * i + k) * 45035996273704960:=by omega
   have hik:IntKind.wrap .i64 ((i:Int) + (k:Int)) = ((i + k:Nat):Int):=vP (by simp only [sJ];omega)
   rw [hq,show decide ((k:Int) < 5) = true from decide_eq_true (by omega),nn,tn,zX (n:=5) hk,hik]
   simp only [cond_true]
   unfold stT
   by_cases h:i + k < 5
   ·have hg:=hs.2.get hpos (i + k)
    rw [if_pos h,show decide (((i + k:Nat):Int) < 5) = true from decide_eq_true (by omega)]
    simp only [cond_true]
    rw [nn,tn,zX (n:=5) h,zB (by omega)]
    simp only [cond_true]
    rw [yG,yG,gS (by simp only [sJ];omega),vP (by simp only [sJ];omega),tM]
   ·have hg:=hs.2.get hpos (i + k - 5)
    have h5:IntKind.wrap .i64 (((i + k:Nat):Int) - 5) = ((i + k - 5:Nat):Int):=by
     rw [zI (by omega) (by omega)];omega
    rw [if_neg h,show decide (((i + k:Nat):Int) < 5) = false from decide_eq_false (by omega)]
    simp only [cond_false]
    rw [h5,nn,tn,zX (n:=5) (show i + k - 5 < 5 by omega),zB (by omega)]
    simp only [cond_true]
    have hm:5 * x.getD i 0 * y.getD k 0 = 5 * (x.getD i 0 * y.getD k 0):=Nat.mul_assoc _ _ _
    rw [yG,yG,show (5:Int) = ((5:Nat):Int) from rfl,gS (by simp only [sJ];omega),gS (by simp only [sJ];omega),hm,vP (by simp only [sJ];omega),tM])
  o ho
 refine ⟨this.1,this.2.1,?_⟩
 have h2:=this.2.2
 rw [show 5 * i + 5 = 5 * (i + 1) + 0 by omega] at h2
 exact h2
theorem BB4 (x y:List Nat) (hlx:x.length = 5) (hx:Bd 134217728 x) (hy:Bd 67108864 y):jH R (cl x) (cl y) = some (cl (CAR (TIM x y)),()):=by
 have hq:jH R (cl x) (cl y) = _:=call (Ar4 R L (cl x) (cl y))
 have:=(yL (fun (o:List Nat) i=>xV R L (cl y) (List.replicate 5 0) (cl o) (cl x) i) (fun i o=>wK (stT x y i) 5 0 o) (fun i o=>BI6 i 0 o) 5
  (fun o=>(wG R (cl o)).bind fun r0=>some (r0.1,()))
  (fun o hs=>by
   have hq:xV R L (cl y) (List.replicate 5 0) (cl o) (cl x) (5:Nat) = _:=round (by kernel_rfl) (aL R L (cl y) (List.replicate 5 0) (cl o) (cl x) (5:Nat))
   show xV R L (cl y) (List.replicate 5 0) (cl o) (cl x) (5:Nat) = _
   rw [hq,show decide (((5:Nat):Int) < 5) = false from by decide]
   rfl)
  (fun o i hi hs=>by
   have hq:xV R L (cl y) (List.replicate 5 0) (cl o) (cl x) (i:Nat) = _:=round (by kernel_rfl) (aL R L (cl y) (List.replicate 5 0) (cl o) (cl x) (i:Nat))
   obtain ⟨h1,h2⟩:=A0e x y (cl y) (List.replicate 5 0) i hi hx hy o hs
   refine ⟨?_,h2⟩
   show xV R L (cl y) (List.replicate 5 0) (cl o) (cl x) (i:Nat) = _
   rw [hq,show decide ((i:Int) < 5) = true from decide_eq_true (by omega),nn,tn,zX (n:=5) hi,yG]
   simp only [cond_true]
   exact h1)
  (List.replicate 5 0) ⟨rfl,Bd.rep (by omega)⟩).1
 rw [hq]
 refine this.trans ?_
 rw [BV3]
 show (wG R (cl (TIM x y))).bind _ = _
 rw [AT4 _ (BC0 x y) (A59 hx hy)]
 rfl
theorem A1Y (x y:List Nat) (v4:List Int) (i:Nat) (hi:i < 5) (hx:Bd 134217728 x) (hy:Bd 67108864 y) (o:List Nat) (ho:BI6 i 0 o):
  vN R L (cl x) (cl y) v4 (cl o) (i:Int) (0:Int) = vO R L (cl x) (cl y) v4 (cl (wK (stT x y i) 5 0 o)) ((i + 1:Nat):Int) ∧ BI6 (i + 1) 0 (wK (stT x y i) 5 0 o):=by
 have:=yL (fun (o:List Nat) k=>vN R L (cl x) (cl y) v4 (cl o) (i:Int) k) (stT x y i) (BI6 i) 5
  (fun o=>vO R L (cl x) (cl y) v4 (cl o) ((i + 1:Nat):Int))
  (fun o hs=>by
   have hq:vN R L (cl x) (cl y) v4 (cl o) (i:Int) (5:Nat) = _:=round (by kernel_rfl) (AP2 R L (cl x) (cl y) v4 (cl o) (i:Int) (5:Nat))
   show vN R L (cl x) (cl y) v4 (cl o) (i:Int) (5:Nat) = _
   rw [hq,show decide (((5:Nat):Int) < 5) = false from by decide,zB (i:=i) (by omega)]
   rfl)
  (fun o k hk hs=>by
   refine ⟨?_,A8r hx hy hs⟩
   have hq:vN R L (cl x) (cl y) v4 (cl o) (i:Int) (k:Nat) = _:=round (by kernel_rfl) (AP2 R L (cl x) (cl y) v4 (cl o) (i:Int) (k:Nat))
   show vN R L (cl x) (cl y) v4 (cl o) (i:Int) (k:Nat) = _
   have hp:=BM4 (hx.get (by decide) i) (hy.get (by decide) k)
   have hpos:0 < 1 + (5 * i + k) * 45035996273704960:=by omega
   have hik:IntKind.wrap .i64 ((i:Int) + (k:Int)) = ((i + k:Nat):Int):=vP (by simp only [sJ];omega)
   have hmod:Int.tmod ((i + k:Nat):Int) 5 = (((i + k) % 5:Nat):Int):=rfl
   rw [hq,show decide ((k:Int) < 5) = true from decide_eq_true (by omega),nn,tn,zX (n:=5) hi,nn,tn,zX (n:=5) hk,hik,hmod,nn,tn,zX (n:=5) (Nat.mod_lt _ (by decide)),zB (by omega),yG,yG,yG,gS (by simp only [sJ];omega)]
   simp only [cond_true]
   unfold stT
   by_cases h:i + k < 5
   ·have hg:=hs.2.get hpos (i + k)
    rw [if_pos h,show decide ((4:Int) < ((i + k:Nat):Int)) = false from decide_eq_false (by omega),Nat.mod_eq_of_lt h]
    simp only [cond_false]
    rw [vP (by simp only [sJ];omega),tM]
   ·have hg:=hs.2.get hpos (i + k - 5)
    have e5:(i + k) % 5 = i + k - 5:=by omega
    rw [if_neg h,show decide ((4:Int) < ((i + k:Nat):Int)) = true from decide_eq_true (by omega),e5]
    simp only [cond_true]
    have hm:x.getD i 0 * y.getD k 0 * 5 = 5 * (x.getD i 0 * y.getD k 0):=Nat.mul_comm _ _
    rw [show (5:Int) = ((5:Nat):Int) from rfl,gS (by simp only [sJ];omega),hm,vP (by simp only [sJ];omega),tM])
  o ho
 refine ⟨this.1,this.2.1,?_⟩
 have h2:=this.2.2
 rw [show 5 * i + 5 = 5 * (i + 1) + 0 by omega] at h2
 exact h2
theorem A8e (x y:List Nat) (hlx:x.length = 5) (hx:Bd 134217728 x) (hy:Bd 67108864 y):kO R (cl x) (cl y) = some (cl (CAR (TIM x y)),()):=by
 have hq:kO R (cl x) (cl y) = _:=call (A3X R L (cl x) (cl y))
 have:=(yL (fun (o:List Nat) i=>vO R L (cl x) (cl y) (List.replicate 5 0) (cl o) i) (fun i o=>wK (stT x y i) 5 0 o) (fun i o=>BI6 i 0 o) 5
  (fun o=>(mQ R (cl o)).bind fun r0=>some (r0.1,()))
  (fun o hs=>by
   have hq:vO R L (cl x) (cl y) (List.replicate 5 0) (cl o) (5:Nat) = _:=round (by kernel_rfl) (AQ0 R L (cl x) (cl y) (List.replicate 5 0) (cl o) (5:Nat))
   show vO R L (cl x) (cl y) (List.replicate 5 0) (cl o) (5:Nat) = _
   rw [hq,show decide (((5:Nat):Int) < 5) = false from by decide]
   rfl)
  (fun o i hi hs=>by
   have hq:vO R L (cl x) (cl y) (List.replicate 5 0) (cl o) (i:Nat) = _:=round (by kernel_rfl) (AQ0 R L (cl x) (cl y) (List.replicate 5 0) (cl o) (i:Nat))
   obtain ⟨h1,h2⟩:=A1Y x y (List.replicate 5 0) i hi hx hy o hs
   refine ⟨?_,h2⟩
   show vO R L (cl x) (cl y) (List.replicate 5 0) (cl o) (i:Nat) = _
   rw [hq,show decide ((i:Int) < 5) = true from decide_eq_true (by omega)]
   simp only [cond_true]
   exact h1)
  (List.replicate 5 0) ⟨rfl,Bd.rep (by omega)⟩).1
 rw [hq]
 refine this.trans ?_
 rw [BV3]
 show (mQ R (cl (TIM x y))).bind _ = _
 rw [A3O _ (BC0 x y) (A59 hx hy)]
 rfl
end Go.Rf.S

end
section
namespace Go.Rf.S
set_option maxRecDepth 100000
def bI (t:List UInt8):List Int:=t.map fun b=>(b.toNat:Int)
theorem BT9 (t:List UInt8):(bI t).length = t.length:=List.length_map _
theorem Ba3 (t:List UInt8) (i:Nat):(bI t).getD i (0:Int) = ((bt t i:Nat):Int):=by
 unfold bI bt
 rw [List.getD_eq_getElem?_getD,List.getD_eq_getElem?_getD,List.getElem?_map]
 cases t[i]? <;> rfl
theorem A1q:∀ (t:List UInt8) (i:Nat),leV t / 256 ^ i % 256 = bt t i
 | [],i=>by simp [leV,bt]
 | c :: cs,0=>by
  have:=c.toNat_lt
  simp only [leV,Nat.pow_zero,Nat.div_one]
  show _ = c.toNat
  omega
 | c :: cs,i + 1=>by
  have:=c.toNat_lt
  have ih:=A1q cs i
  have e:leV (c :: cs) / 256 ^ (i + 1) = leV cs / 256 ^ i:=by
   rw [Nat.pow_succ,Nat.mul_comm,← Nat.div_div_eq_div_mul]
   congr 1
   simp only [leV]
   omega
  rw [e,ih]
  rfl
theorem A9k {m s:Nat} (h:m < 2 ^ s):m ||| 2 ^ s = m + 2 ^ s:=by
 have:=Nat.two_pow_add_eq_or_of_lt h 1
 rw [Nat.mul_one] at this
 rw [Nat.or_comm,← this,Nat.add_comm]
theorem Br3 {s:Nat} (h:s < 26):1 ≤ 2 ^ s ∧ 2 ^ s ≤ 33554432:=⟨Nat.one_le_two_pow,Nat.le_trans (Nat.pow_le_pow_right (by decide) (show s ≤ 25 by omega)) (by decide)⟩
theorem Bt6 {N q s:Nat} (hq:q < 5) (hs:s < 26) (hN:N < 2 ^ (26 * q + s)):(L5 N).set q ((L5 N).getD q 0 ||| 2 ^ s) = L5 (N + 2 ^ (26 * q + s)):=by
 have hp:=Br3 hs
 rw [Nat.pow_add] at hN ⊢
 have e:∀ m,m < 2 ^ s → m ||| 2 ^ s = m + 2 ^ s:=fun m hm=>A9k hm
 generalize 2 ^ s = P at hp hN e ⊢
 match q,hq with
 | 0,_=>
  rw [show 2 ^ (26 * 0) * P = P by simp] at hN ⊢
  show [(N % 67108864 ||| P),_,_,_,_] = L5 (N + P)
  rw [e _ (by omega)]
  unfold L5
  congr 1
  ·omega
  ·congr 1
   ·omega
   ·congr 1
    ·omega
    ·congr 1
     ·omega
     ·congr 1;omega
 | 1,_=>
  rw [show 2 ^ (26 * 1) * P = 67108864 * P from rfl] at hN ⊢
  show [_,(N / 67108864 % 67108864 ||| P),_,_,_] = L5 (N + 67108864 * P)
  rw [e _ (by omega)]
  unfold L5
  congr 1
  ·omega
  ·congr 1
   ·omega
   ·congr 1
    ·omega
    ·congr 1
     ·omega
     ·congr 1;omega
 | 2,_=>
  rw [show 2 ^ (26 * 2) * P = 4503599627370496 * P from rfl] at hN ⊢
  show [_,_,(N / 4503599627370496 % 67108864 ||| P),_,_] = L5 (N + 4503599627370496 * P)
  rw [e _ (by omega)]
  unfold L5
  congr 1
  ·omega
  ·congr 1
   ·omega
   ·congr 1
    ·omega
    ·congr 1
     ·omega
     ·congr 1;omega
 | 3,_=>
  rw [show 2 ^ (26 * 3) * P = 302231454903657293676544 * P from rfl] at hN ⊢
  show [_,_,_,(N / 302231454903657293676544 % 67108864 ||| P),_] = L5 (N + 302231454903657293676544 * P)
  rw [e _ (by omega)]
  unfold L5
  congr 1
  ·omega
  ·congr 1
   ·omega
   ·congr 1
    ·omega
    ·congr 1
     ·omega
     ·congr 1;omega
 | 4,_=>
  rw [show 2 ^ (26 * 4) * P = 20282409603651670423947251286016 * P from rfl] at hN ⊢
  show [_,_,_,_,(N / 20282409603651670423947251286016 % 67108864 ||| P)] = L5 (N + 20282409603651670423947251286016 * P)
  rw [e _ (by omega)]
  unfold L5
  congr 1
  ·omega
  ·congr 1
   ·omega
   ·congr 1
    ·omega
    ·congr 1
     ·omega
     ·congr 1;omega
theorem Aj3 (n:Nat):Bd 67108864 (L5 n):=bd5 (Nat.mod_lt _ (by decide)) (Nat.mod_lt _ (by decide)) (Nat.mod_lt _ (by decide)) (Nat.mod_lt _ (by decide)) (Nat.mod_lt _ (by decide))
theorem BK9 {t:List UInt8} {i b:Nat} (hb:b < 8):bt t i / 2 ^ b % 2 = leV t / 2 ^ (8 * i + b) % 2:=by
 rw [← A1q,show (256:Nat) = 2 ^ 8 from rfl,← Nat.pow_mul]
 rw [Nat.pow_add,← Nat.div_div_eq_div_mul]
 generalize leV t / 2 ^ (8 * i) = m
 rw [show (2:Nat) ^ 8 = 2 ^ b * (2 * 2 ^ (7 - b)) by rw [← Nat.pow_succ',← Nat.pow_add];congr 1;omega,Nat.mod_mul_right_div_self,Nat.mod_mul_right_mod]
theorem A5A (n k:Nat):n % 2 ^ (k + 1) = n % 2 ^ k + (n / 2 ^ k % 2) * 2 ^ k:=by
 rw [Nat.mod_pow_succ,Nat.mul_comm (2 ^ k)]
theorem Bn8 {t:List UInt8} (hl:t.length ≤ 17) (hn:leV t < 1361129467683753853853498429727072845824) (i:Nat) (hi:i < t.length) (v2:List Int) (v9:List Int) (v10:Int):
  vL R L v2 (cl (L5 (leV t % 2 ^ (8 * i)))) (i:Int) ((bt t i:Nat):Int) v9 v10 (i:Int) (0:Int) = wS R L v2 (cl (L5 (leV t % 2 ^ (8 * (i + 1))))) v9 v10 ((i + 1:Nat):Int):=by
 have:=(yL (fun (k:Nat) b=>vL R L v2 (cl (L5 (leV t % 2 ^ k))) (i:Int) ((bt t i:Nat):Int) v9 v10 (i:Int) b) (fun _ k=>k + 1) (fun b k=>k = 8 * i + b) 8
  (fun k=>wS R L v2 (cl (L5 (leV t % 2 ^ k))) v9 v10 ((i + 1:Nat):Int))
  (fun k hk=>by
   have hq:vL R L v2 (cl (L5 (leV t % 2 ^ k))) (i:Int) ((bt t i:Nat):Int) v9 v10 (i:Int) (8:Nat) = _:=round (by kernel_rfl) (AV0 R L v2 _ (i:Int) _ v9 v10 (i:Int) (8:Nat))
   show vL R L v2 (cl (L5 (leV t % 2 ^ k))) (i:Int) ((bt t i:Nat):Int) v9 v10 (i:Int) (8:Nat) = _
   rw [hq,show decide (((8:Nat):Int) < 8) = false from by decide]
   simp only [cond_false]
   rw [zB (i:=i) (by omega)])
  (fun k b hb hk=>by
   subst hk
   refine ⟨?_,rfl⟩
   have hq:vL R L v2 (cl (L5 (leV t % 2 ^ (8 * i + b)))) (i:Int) ((bt t i:Nat):Int) v9 v10 (i:Int) (b:Nat) = _:=round (by kernel_rfl) (AV0 R L v2 _ (i:Int) _ v9 v10 (i:Int) (b:Nat))
   show vL R L v2 (cl (L5 (leV t % 2 ^ (8 * i + b)))) (i:Int) ((bt t i:Nat):Int) v9 v10 (i:Int) (b:Nat) = vL R L v2 (cl (L5 (leV t % 2 ^ (8 * i + b + 1)))) (i:Int) ((bt t i:Nat):Int) v9 v10 (i:Int) ((b + 1:Nat):Int)
   have hbt:=qB t i
   have hdiv:bt t i / 2 ^ b < 256:=Nat.lt_of_le_of_lt (Nat.div_le_self _ _) hbt
   have hand:xH .and .u8 (((bt t i / 2 ^ b:Nat)):Int) 1 = ((bt t i / 2 ^ b % 2:Nat):Int):=by
    rw [show (1:Int) = ((1:Nat):Int) from rfl,AT6 (by simp only [sJ];omega) (by decide),Nat.and_one_is_mod]
   have hmin:Min.min (Int.toNat (b:Int)) (IntKind.bits .u8) = b:=by rw [tn];show Nat.min b 8 = b;exact Nat.min_eq_left (by omega)
   rw [hq,show decide ((b:Int) < 8) = true from decide_eq_true (by omega),show decide ((b:Int) < 0) = false from decide_eq_false (by omega),hmin,jO,hand,BK9 hb,zB (i:=b) (by omega)]
   simp only [cond_true,cond_false]
   rcases Nat.mod_two_eq_zero_or_one (leV t / 2 ^ (8 * i + b)) with h0 | h1
   ·rw [h0,A5A,h0,Nat.zero_mul,Nat.add_zero]
    rfl
   ·rw [h1,A5A,h1,Nat.one_mul]
    have hk:8 * i + b < 130:=by
     rcases Nat.lt_or_ge (8 * i + b) 130 with h | h
     ·exact h
     ·have:leV t / 2 ^ (8 * i + b) = 0:=Nat.div_eq_of_lt (Nat.lt_of_lt_of_le hn (Nat.le_trans (by decide) (Nat.pow_le_pow_right (by decide) h)))
      rw [this] at h1;simp at h1
    have e8:IntKind.wrap .i64 (IntKind.wrap .i64 (8 * (i:Int)) + (b:Int)) = ((8 * i + b:Nat):Int):=by
     rw [show (8:Int) = ((8:Nat):Int) from rfl,gS (by simp only [sJ];omega),vP (by simp only [sJ];omega)]
    have et:Int.tdiv ((8 * i + b:Nat):Int) 26 = (((8 * i + b) / 26:Nat):Int):=rfl
    have em:Int.tmod ((8 * i + b:Nat):Int) 26 = (((8 * i + b) % 26:Nat):Int):=rfl
    rw [e8,et,em,rA (by omega),nn,tn,zX (n:=5) (by omega),show decide ((((8 * i + b) % 26:Nat):Int) < 0) = false from decide_eq_false (by omega),tn]
    rw [show eqI ((1:Nat):Int) 1 = true from rfl]
    simp only [cond_true,cond_false]
    have hs:(8 * i + b) % 26 < 26:=Nat.mod_lt _ (by decide)
    have hp:=Br3 hs
    have hm2:Min.min ((8 * i + b) % 26) (IntKind.bits .u64) = (8 * i + b) % 26:=Nat.min_eq_left (by show _ ≤ 64;omega)
    have hw:IntKind.wrap .u64 (1 * 2 ^ ((8 * i + b) % 26)) = ((2 ^ ((8 * i + b) % 26):Nat):Int):=by
     rw [Int.one_mul,show (2 ^ ((8 * i + b) % 26):Int) = ((2 ^ ((8 * i + b) % 26):Nat):Int) from by simp,AZ5 (by simp only [sJ];omega)]
    have hg:=(Aj3 (leV t % 2 ^ (8 * i + b))).get (by decide) ((8 * i + b) / 26)
    rw [hm2,hw,yG,Ah6 (by simp only [sJ];omega) (by simp only [sJ];omega),tM,Bt6 (by omega) hs (by
     rw [Nat.div_add_mod];exact Nat.mod_lt _ (Nat.two_pow_pos _)),Nat.div_add_mod])
  (8 * i) (by omega)).1
 exact this
theorem Ao6 (t:List UInt8) (hl:t.length ≤ 17) (hn:leV t < 1361129467683753853853498429727072845824):iK R t = some (cl (L5 (leV t)),()):=by
 have hq:iK R t = _:=call (A4E R L t)
 have:=(yL (fun (k:Nat) i=>wS R L (List.replicate 5 0) (cl (L5 (leV t % 2 ^ k))) (bI t) (t.length:Nat) i) (fun _ k=>k + 8) (fun i k=>k = 8 * i) t.length
  (fun k=>some (cl (L5 (leV t)),()))
  (fun k hk=>by
   subst hk
   have hq:wS R L (List.replicate 5 0) (cl (L5 (leV t % 2 ^ (8 * t.length)))) (bI t) (t.length:Nat) (t.length:Nat) = _:=round (by kernel_rfl) (AV6 R L (List.replicate 5 0) _ (bI t) (t.length:Nat) (t.length:Nat))
   show wS R L (List.replicate 5 0) (cl (L5 (leV t % 2 ^ (8 * t.length)))) (bI t) (t.length:Nat) (t.length:Nat) = _
   rw [hq,aC (Nat.le_refl _)]
   have:=A6O t
   rw [show (256:Nat) = 2 ^ 8 from rfl,← Nat.pow_mul] at this
   rw [Nat.mod_eq_of_lt this]
   rfl)
  (fun k i hi hk=>by
   subst hk
   refine ⟨?_,by omega⟩
   have hq:wS R L (List.replicate 5 0) (cl (L5 (leV t % 2 ^ (8 * i)))) (bI t) (t.length:Nat) (i:Nat) = _:=round (by kernel_rfl) (AV6 R L (List.replicate 5 0) _ (bI t) (t.length:Nat) (i:Nat))
   show wS R L (List.replicate 5 0) (cl (L5 (leV t % 2 ^ (8 * i)))) (bI t) (t.length:Nat) (i:Nat) = wS R L (List.replicate 5 0) (cl (L5 (leV t % 2 ^ (8 * i + 8)))) (bI t) (t.length:Nat) ((i + 1:Nat):Int)
   rw [hq,bL hi,nn,tn,zX (by rw [BT9];exact hi),Ba3]
   simp only [cond_true]
   exact Bn8 hl hn i hi _ _ _)
  0 rfl).1
 rw [hq]
 show wS R L (List.replicate 5 0) (List.replicate 5 0) (bI t) ((bI t).length:Nat) 0 = _
 rw [BT9]
 refine Eq.trans ?_ this
 rw [Nat.pow_zero,Nat.mod_one]
 rfl
end Go.Rf.S

end
section
namespace Go.Rf.S
set_option maxRecDepth 100000
def stP (t:List UInt8) (i:Nat) (o:List Nat):List Nat:=
 let o1:=o.set (8 * i / 26) (o.getD (8 * i / 26) 0 + bt t i * 2 ^ (8 * i % 26) % 67108864)
 if 18 < 8 * i % 26 ∧ 8 * i / 26 < 4 then o1.set (8 * i / 26 + 1) (o1.getD (8 * i / 26 + 1) 0 + bt t i / 2 ^ (26 - 8 * i % 26)) else o1
theorem sh2 (b:Nat):b * 16777216 % 67108864 + 67108864 * (b / 4) = b * 16777216:=by
 rw [show (67108864:Nat) = 4 * 16777216 from rfl,Nat.mul_mod_mul_right]
 omega
theorem sh4 (b:Nat):b * 4194304 % 67108864 + 67108864 * (b / 16) = b * 4194304:=by
 rw [show (67108864:Nat) = 16 * 4194304 from rfl,Nat.mul_mod_mul_right]
 omega
theorem sh6 (b:Nat):b * 1048576 % 67108864 + 67108864 * (b / 64) = b * 1048576:=by
 rw [show (67108864:Nat) = 64 * 1048576 from rfl,Nat.mul_mod_mul_right]
 omega
theorem A85 (b0 b1 b2 b3 b4 b5 b6 b7 b8 b9 b10 b11 b12 b13 b14 b15 b16 x3 x6 x9 y3 y6 y9:Nat) (e3:x3 + 67108864 * y3 = b3 * 16777216) (e6:x6 + 67108864 * y6 = b6 * 4194304) (e9:x9 + 67108864 * y9 = b9 * 1048576):
  val (0 + b0 * 1 + b1 * 256 + b2 * 65536 + x3) (0 + y3 + b4 * 64 + b5 * 16384 + x6) (0 + y6 + b7 * 16 + b8 * 4096 + x9) (0 + y9 + b10 * 4 + b11 * 1024 + b12 * 262144) (0 + b13 * 1 + b14 * 256 + b15 * 65536 + b16 * 16777216) =
  b0 + 256 * (b1 + 256 * (b2 + 256 * (b3 + 256 * (b4 + 256 * (b5 + 256 * (b6 + 256 * (b7 + 256 * (b8 + 256 * (b9 + 256 * (b10 + 256 * (b11 + 256 * (b12 + 256 * (b13 + 256 * (b14 + 256 * (b15 + 256 * (b16 + 256 * 0)))))))))))))))):=by
 unfold val
 omega
theorem A9q {b0 b1 b2 b3 b4 b5 b6 b7 b8 b9 b10 b11 b12 b13 b14 b15 b16 : Nat} (h0 : b0 < 256) (h1 : b1 < 256) (h2 : b2 < 256) (h3 : b3 < 256) (h4 : b4 < 256) (h5 : b5 < 256) (h6 : b6 < 256) (h7 : b7 < 256) (h8 : b8 < 256) (h9 : b9 < 256) (h10 : b10 < 256) (h11 : b11 < 256) (h12 : b12 < 256) (h13 : b13 < 256) (h14 : b14 < 256) (h15 : b15 < 256) (h16 : b16 < 4) :
    [0 + b0 * 1 % 67108864 + b1 * 256 % 67108864 + b2 * 65536 % 67108864 + b3 * 16777216 % 67108864,
     0 + b3 / 4 + b4 * 64 % 67108864 + b5 * 16384 % 67108864 + b6 * 4194304 % 67108864,
     0 + b6 / 16 + b7 * 16 % 67108864 + b8 * 4096 % 67108864 + b9 * 1048576 % 67108864,
     0 + b9 / 64 + b10 * 4 % 67108864 + b11 * 1024 % 67108864 + b12 * 262144 % 67108864,
     0 + b13 * 1 % 67108864 + b14 * 256 % 67108864 + b15 * 65536 % 67108864 + b16 * 16777216 % 67108864] =
    L5 (b0 + 256 * (b1 + 256 * (b2 + 256 * (b3 + 256 * (b4 + 256 * (b5 + 256 * (b6 + 256 * (b7 + 256 * (b8 + 256 * (b9 + 256 * (b10 + 256 * (b11 + 256 * (b12 + 256 * (b13 + 256 * (b14 + 256 * (b15 + 256 * (b16 + 256 * 0))))))))))))))))) := by
  have v : val (0 + b0 * 1 % 67108864 + b1 * 256 % 67108864 + b2 * 65536 % 67108864 + b3 * 16777216 % 67108864) (0 + b3 / 4 + b4 * 64 % 67108864 + b5 * 16384 % 67108864 + b6 * 4194304 % 67108864)
     (0 + b6 / 16 + b7 * 16 % 67108864 + b8 * 4096 % 67108864 + b9 * 1048576 % 67108864) (0 + b9 / 64 + b10 * 4 % 67108864 + b11 * 1024 % 67108864 + b12 * 262144 % 67108864)
     (0 + b13 * 1 % 67108864 + b14 * 256 % 67108864 + b15 * 65536 % 67108864 + b16 * 16777216 % 67108864) =
    b0 + 256 * (b1 + 256 * (b2 + 256 * (b3 + 256 * (b4 + 256 * (b5 + 256 * (b6 + 256 * (b7 + 256 * (b8 + 256 * (b9 + 256 * (b10 + 256 * (b11 + 256 * (b12 + 256 * (b13 + 256 * (b14 + 256 * (b15 + 256 * (b16 + 256 * 0)))))))))))))))) := by
    rw [Nat.mod_eq_of_lt (a := b0 * 1) (by omega), Nat.mod_eq_of_lt (a := b1 * 256) (by omega), Nat.mod_eq_of_lt (a := b2 * 65536) (by omega), Nat.mod_eq_of_lt (a := b4 * 64) (by omega), Nat.mod_eq_of_lt (a := b5 * 16384) (by omega), Nat.mod_eq_of_lt (a := b7 * 16) (by omega), Nat.mod_eq_of_lt (a := b8 * 4096) (by omega), Nat.mod_eq_of_lt (a := b10 * 4) (by omega), Nat.mod_eq_of_lt (a := b11 * 1024) (by omega), Nat.mod_eq_of_lt (a := b12 * 262144) (by omega), Nat.mod_eq_of_lt (a := b13 * 1) (by omega), Nat.mod_eq_of_lt (a := b14 * 256) (by omega), Nat.mod_eq_of_lt (a := b15 * 65536) (by omega), Nat.mod_eq_of_lt (a := b16 * 16777216) (by omega)]
    exact A85 _ _ _ _ _ _ _ _ _ _ _ _ _ _ _ _ _ _ _ _ _ _ _ (sh2 b3) (sh4 b6) (sh6 b9)
  rw [← v]
  refine (BR1 ?_ ?_ ?_ ?_ ?_).symm <;> omega
theorem Bq8 {t:List UInt8} (h:t.length = 17):leV t = bt t 0 + 256 * (bt t 1 + 256 * (bt t 2 + 256 * (bt t 3 + 256 * (bt t 4 + 256 * (bt t 5 + 256 * (bt t 6 + 256 * (bt t 7 + 256 * (bt t 8 + 256 * (bt t 9 + 256 * (bt t 10 + 256 * (bt t 11 + 256 * (bt t 12 + 256 * (bt t 13 + 256 * (bt t 14 + 256 * (bt t 15 + 256 * (bt t 16 + 256 * 0)))))))))))))))):=by
 match t,h with
 | [a,b,c,d,e,f,g,h,i,j,k,l,m,n,o,p,q],_=>rfl
theorem A3U (t:List UInt8) (hl:t.length = 17) (h16:bt t 16 < 4):kU R t = some (cl (L5 (leV t)),()):=by
 have hq:kU R t = _:=call (A3w R L t)
 have:=(yL (fun (o:List Nat) i=>vM R L t (List.replicate 5 0) (cl o) i) (stP t) (fun i o=>o.length = 5 ∧ Bd (1 + i * 134217728) o) 17
  (fun o=>some (cl o,()))
  (fun o hs=>by
   have hq:vM R L t (List.replicate 5 0) (cl o) (17:Nat) = _:=round (by kernel_rfl) (AP4 R L t (List.replicate 5 0) (cl o) (17:Nat))
   show vM R L t (List.replicate 5 0) (cl o) (17:Nat) = _
   rw [hq,show decide (((17:Nat):Int) < 17) = false from by decide]
   rfl)
  (fun o i hi hs=>by
   have hq:vM R L t (List.replicate 5 0) (cl o) (i:Nat) = _:=round (by kernel_rfl) (AP4 R L t (List.replicate 5 0) (cl o) (i:Nat))
   have hb:=qB t i
   have hpos:0 < 1 + i * 134217728:=by omega
   have hg:=hs.2.get hpos (8 * i / 26)
   have hg1:=hs.2.get hpos (8 * i / 26 + 1)
   have hm:=Nat.mod_lt (bt t i * 2 ^ (8 * i % 26)) (show 0 < 67108864 by decide)
   have hd:bt t i / 2 ^ (26 - 8 * i % 26) ≤ bt t i:=Nat.div_le_self _ _
   have hmono:Bd (1 + (i + 1) * 134217728) o:=fun z hz=>Nat.lt_of_lt_of_le (hs.2 z hz) (by omega)
   refine ⟨?_,?_⟩
   ·show vM R L t (List.replicate 5 0) (cl o) (i:Nat) = _
    have e8:IntKind.wrap .i64 (8 * (i:Int)) = ((8 * i:Nat):Int):=by rw [show (8:Int) = ((8:Nat):Int) from rfl,gS (by simp only [sJ];omega)]
    have et:Int.tdiv ((8 * i:Nat):Int) 26 = ((8 * i / 26:Nat):Int):=rfl
    have em:Int.tmod ((8 * i:Nat):Int) 26 = ((8 * i % 26:Nat):Int):=rfl
    have hs26:8 * i % 26 < 26:=Nat.mod_lt _ (by decide)
    have hp:=Br3 hs26
    have hmul:bt t i * 2 ^ (8 * i % 26) ≤ 255 * 33554432:=Nat.mul_le_mul (by omega) hp.2
    have hmn:Min.min (8 * i % 26) (IntKind.bits .i64) = 8 * i % 26:=Nat.min_eq_left (by show _ ≤ 64;omega)
    have hw0:IntKind.wrap .i64 ((UInt8.toNat (t.getD i 0):Nat):Int) = ((bt t i:Nat):Int):=rA (by show bt t i < _;omega)
    have hsh:IntKind.wrap .i64 (((bt t i:Nat):Int) * 2 ^ (8 * i % 26)) = ((bt t i * 2 ^ (8 * i % 26):Nat):Int):=by rw [A7k,rA (by omega)]
    rw [hq,show decide ((i:Int) < 17) = true from decide_eq_true (by omega),e8,et,em,rA (n:=8 * i / 26) (by omega)]
    simp only [nn,tn]
    rw [zX (n:=t.length) (by omega),zX (n:=5) (show 8 * i / 26 < 5 by omega),show decide (((8 * i % 26:Nat):Int) < 0) = false from decide_eq_false (by omega),hmn,hw0,hsh,m26 (by simp only [sJ];omega) (by decide),yG,vP (by simp only [sJ];omega),tM,zB (i:=i) (by omega)]
    simp only [cond_true,cond_false]
    unfold stP
    by_cases h18:18 < 8 * i % 26
    ·rw [show decide ((18:Int) < ((8 * i % 26:Nat):Int)) = true from decide_eq_true (by omega)]
     simp only [cond_true]
     by_cases h4:8 * i / 26 < 4
     ·rw [show decide (((8 * i / 26:Nat):Int) < 4) = true from decide_eq_true (by omega),zB (i:=8 * i / 26) (by omega)]
      simp only [cond_true,nn,tn]
      have e26:IntKind.wrap .i64 (26 - ((8 * i % 26:Nat):Int)) = ((26 - 8 * i % 26:Nat):Int):=by rw [zI (by omega) (by omega)];omega
      have hmn2:Min.min (26 - 8 * i % 26) (IntKind.bits .i64) = 26 - 8 * i % 26:=Nat.min_eq_left (by show _ ≤ 64;omega)
      rw [zX (n:=5) (show 8 * i / 26 + 1 < 5 by omega),e26,show decide (((26 - 8 * i % 26:Nat):Int) < 0) = false from decide_eq_false (by omega),tn,hmn2,jO,yG,mJ (by omega),vP (by simp only [sJ];omega),tM,if_pos ⟨h18,h4⟩]
      simp only [cond_true,cond_false]
      first | done | rw [mJ (by omega)]
     ·rw [show decide (((8 * i / 26:Nat):Int) < 4) = false from decide_eq_false (by omega),if_neg (fun h=>h4 h.2)]
      rfl
    ·rw [show decide ((18:Int) < ((8 * i % 26:Nat):Int)) = false from decide_eq_false (by omega),if_neg (fun h=>h18 h.1)]
     rfl
   ·unfold stP
    simp only
    split
    ·exact ⟨by simp [hs.1],(hmono.set (by omega)).set (by rw [mJ (by omega)];omega)⟩
    ·exact ⟨by simp [hs.1],hmono.set (by omega)⟩)
  (List.replicate 5 0) ⟨rfl,Bd.rep (by omega)⟩).1
 rw [hq]
 refine this.trans ?_
 rw [Bq8 hl,← A9q (qB _ _) (qB _ _) (qB _ _) (qB _ _) (qB _ _) (qB _ _) (qB _ _) (qB _ _) (qB _ _) (qB _ _) (qB _ _) (qB _ _) (qB _ _) (qB _ _) (qB _ _) (qB _ _) h16]
 kernel_rfl
end Go.Rf.S

end
section
namespace Go.Rf.S
set_option maxRecDepth 100000
def ADD (x y:List Nat):List Nat:=[x.getD 0 0 + y.getD 0 0,x.getD 1 0 + y.getD 1 0,x.getD 2 0 + y.getD 2 0,x.getD 3 0 + y.getD 3 0,x.getD 4 0 + y.getD 4 0]
def Bg1 (y:List Nat) (i:Nat) (x:List Nat):List Nat:=x.set i (x.getD i 0 + y.getD i 0)
theorem BW2 (x y:List Nat) (h:x.length = 5):wK (Bg1 y) 5 0 x = ADD x y:=by
 match x,h with
 | [a,b,c,d,e],_=>rfl
theorem BU6 (x y:List Nat):vl (ADD x y) = vl x + vl y:=by
 show val _ _ _ _ _ = val _ _ _ _ _ + val _ _ _ _ _
 unfold val
 simp only [ADD,List.getD_cons_zero,List.getD_cons_succ]
 omega
theorem A8k {x y:List Nat} (hx:Bd 67108864 x) (hy:Bd 67108864 y):Bd 134217728 (ADD x y):=by
 have g:=fun i=>hx.get (by decide) i
 have k:=fun i=>hy.get (by decide) i
 have g0:=g 0;have g1:=g 1;have g2:=g 2;have g3:=g 3;have g4:=g 4
 have k0:=k 0;have k1:=k 1;have k2:=k 2;have k3:=k 3;have k4:=k 4
 exact bd5 (by omega) (by omega) (by omega) (by omega) (by omega)
def Bo2 (x0:List Nat) (i:Nat) (x:List Nat):Prop:=x.length = 5 ∧ ∀ j,i ≤ j → x.getD j 0 = x0.getD j 0
theorem Bo2.step {x0 y x:List Nat} {i:Nat} (h:Bo2 x0 i x):Bo2 x0 (i + 1) (Bg1 y i x):=⟨by simp [Bg1,h.1],fun j hj=>by
 unfold Bg1
 rw [mJ (by omega)];exact h.2 j (by omega)⟩
theorem BO0 (x y:List Nat) (hl:x.length = 5) (hx:Bd 67108864 x) (hy:Bd 67108864 y):gP R (cl x) (cl y) = some (cl (CAR (ADD x y)),()):=by
 have hq:gP R (cl x) (cl y) = _:=call (Au4 R L (cl x) (cl y))
 have:=(yL (fun (z:List Nat) i=>uA R L (cl z) (cl y) (List.replicate 5 0) i) (Bg1 y) (Bo2 x) 5
  (fun z=>(wG R (cl z)).bind fun r0=>some (r0.1,()))
  (fun z hs=>by
   have hq:uA R L (cl z) (cl y) (List.replicate 5 0) (5:Nat) = _:=round (by kernel_rfl) (AD9 R L (cl z) (cl y) (List.replicate 5 0) (5:Nat))
   show uA R L (cl z) (cl y) (List.replicate 5 0) (5:Nat) = _
   rw [hq,show decide (((5:Nat):Int) < 5) = false from by decide]
   rfl)
  (fun z i hi hs=>by
   have hq:uA R L (cl z) (cl y) (List.replicate 5 0) (i:Nat) = _:=round (by kernel_rfl) (AD9 R L (cl z) (cl y) (List.replicate 5 0) (i:Nat))
   refine ⟨?_,hs.step⟩
   show uA R L (cl z) (cl y) (List.replicate 5 0) (i:Nat) = _
   have hg:=hx.get (by decide) i
   have hk:=hy.get (by decide) i
   have he:=hs.2 i (Nat.le_refl _)
   rw [hq,show decide ((i:Int) < 5) = true from decide_eq_true (by omega)]
   simp only [nn,tn]
   rw [zX (n:=5) hi,yG,yG,vP (by simp only [sJ];omega),tM,zB (i:=i) (by omega)]
   rfl)
  x ⟨hl,fun _ _=>rfl⟩).1
 rw [hq]
 refine this.trans ?_
 rw [BW2 _ _ hl]
 show (wG R (cl (ADD x y))).bind _ = _
 rw [AT4 _ rfl (fun z hz=>Nat.lt_of_lt_of_le (A8k hx hy z hz) (by decide))]
 rfl
theorem BP2 (x y:List Nat) (hl:x.length = 5) (hx:Bd 67108864 x) (hy:Bd 67108864 y) (v0 v1:List UInt8) (v5:List Int) (v7:Int):
  tW R L v0 v1 v5 (cl x) v7 (cl y) (0:Int) = (kO R (cl (ADD x y)) v5).bind fun r0=>rH R L v0 v1 v5 r0.1 (IntKind.wrap .i64 (v7 + 16)):=by
 have:=(yL (fun (z:List Nat) i=>tW R L v0 v1 v5 (cl z) v7 (cl y) i) (Bg1 y) (Bo2 x) 5
  (fun z=>(kO R (cl z) v5).bind fun r0=>rH R L v0 v1 v5 r0.1 (IntKind.wrap .i64 (v7 + 16)))
  (fun z hs=>by
   have hq:tW R L v0 v1 v5 (cl z) v7 (cl y) (5:Nat) = _:=round (by kernel_rfl) (Ah1 R L v0 v1 v5 (cl z) v7 (cl y) (5:Nat))
   show tW R L v0 v1 v5 (cl z) v7 (cl y) (5:Nat) = _
   rw [hq,show decide (((5:Nat):Int) < 5) = false from by decide]
   rfl)
  (fun z i hi hs=>by
   have hq:tW R L v0 v1 v5 (cl z) v7 (cl y) (i:Nat) = _:=round (by kernel_rfl) (Ah1 R L v0 v1 v5 (cl z) v7 (cl y) (i:Nat))
   refine ⟨?_,hs.step⟩
   show tW R L v0 v1 v5 (cl z) v7 (cl y) (i:Nat) = _
   have hg:=hx.get (by decide) i
   have hk:=hy.get (by decide) i
   have he:=hs.2 i (Nat.le_refl _)
   rw [hq,show decide ((i:Int) < 5) = true from decide_eq_true (by omega)]
   simp only [nn,tn]
   rw [zX (n:=5) hi,yG,yG,vP (by simp only [sJ];omega),tM,zB (i:=i) (by omega)]
   rfl)
  x ⟨hl,fun _ _=>rfl⟩).1
 refine this.trans ?_
 rw [BW2 _ _ hl]
def RED (x:List Nat):List Nat:=if PP ≤ vl x then L5 (vl x - PP) else x
theorem BW8 {x:List Nat} (h:Can x):RED x = L5 (if PP ≤ vl x then vl x - PP else vl x):=by
 unfold RED
 split
 ·rfl
 ·have g:=fun i=>h.b.get (by decide) i
  exact (A8S h.l).trans (BR1 (g 0) (g 1) (g 2) (g 3) (g 4)).symm
theorem Bk3 {x:List Nat} (h:Can x):vl x < 1361129467683753853853498429727072845824:=by
 have g:=fun i=>h.b.get (by decide) i
 exact Bn2 (g 0) (g 1) (g 2) (g 3) (g 4)
def lst:List Nat:=[67108859,67108863,67108863,67108863,67108863]
theorem BL1 (x:List Nat) (hx:Can x) (v2:List Int) (i:Nat) (hi:i < 5):xN R L (cl x) v2 (cl lst) (i:Int) =
  if x.getD i 0 = lst.getD i 0 then xN R L (cl x) v2 (cl lst) ((i:Int) - 1) else if x.getD i 0 < lst.getD i 0 then some (cl x,()) else zW R L (cl x) v2 (cl lst) 0:=by
 have hq:xN R L (cl x) v2 (cl lst) (i:Int) = _:=round (by kernel_rfl) (dK R L (cl x) v2 (cl lst) (i:Int))
 rw [hq,show decide ((0:Int) ≤ (i:Int)) = true from decide_eq_true (by omega),zI (n:=(i:Int) - 1) (by omega) (by omega)]
 simp only [nn,tn]
 rw [zX (n:=5) hi,yG,yG,wY]
 simp only [cond_true]
 by_cases h:x.getD i 0 = lst.getD i 0
 ·rw [if_pos h,h];simp
 ·rw [if_neg h,show decide (((x.getD i 0:Nat):Int) = ((lst.getD i 0:Nat):Int)) = false from decide_eq_false (by omega)]
  simp only [Bool.not_false,cond_true]
  by_cases h2:x.getD i 0 < lst.getD i 0
  ·rw [if_pos h2,show decide (((x.getD i 0:Nat):Int) < ((lst.getD i 0:Nat):Int)) = true from decide_eq_true (by omega)];rfl
  ·rw [if_neg h2,show decide (((x.getD i 0:Nat):Int) < ((lst.getD i 0:Nat):Int)) = false from decide_eq_false (by omega)];rfl
theorem Bk9 (l:List Nat) (a b c d e:Nat):wK (fun i (z:List Nat)=>z.set i (z.getD i 0 - l.getD i 0)) 5 0 [a,b,c,d,e] = [a - l.getD 0 0,b - l.getD 1 0,c - l.getD 2 0,d - l.getD 3 0,e - l.getD 4 0]:=rfl
theorem Bd9 (a:Nat) (ha:a < 67108864) (h:67108859 ≤ a) (v2:List Int):zW R L (cl [a,67108863,67108863,67108863,67108863]) v2 (cl lst) (0:Int) = some (cl [a - 67108859,0,0,0,0],()):=by
 have:=(yL (fun (z:List Nat) i=>zW R L (cl z) v2 (cl lst) i) (fun i z=>z.set i (z.getD i 0 - lst.getD i 0)) (fun i z=>z.length = 5 ∧ ∀ j,i ≤ j → z.getD j 0 = [a,67108863,67108863,67108863,67108863].getD j 0) 5
  (fun z=>some (cl z,()))
  (fun z hs=>by
   have hq:zW R L (cl z) v2 (cl lst) (5:Nat) = _:=round (by kernel_rfl) (dN R L (cl z) v2 (cl lst) (5:Nat))
   show zW R L (cl z) v2 (cl lst) (5:Nat) = _
   rw [hq,show decide (((5:Nat):Int) < 5) = false from by decide]
   rfl)
  (fun z i hi hs=>by
   have hq:zW R L (cl z) v2 (cl lst) (i:Nat) = _:=round (by kernel_rfl) (dN R L (cl z) v2 (cl lst) (i:Nat))
   refine ⟨?_,by simp [hs.1],fun j hj=>by rw [mJ (by omega)];exact hs.2 j (by omega)⟩
   show zW R L (cl z) v2 (cl lst) (i:Nat) = _
   have he:=hs.2 i (Nat.le_refl _)
   have hge:lst.getD i 0 ≤ z.getD i 0 ∧ z.getD i 0 < 67108864:=by
    rw [he]
    match i,hi with
    | 0,_=>exact ⟨h,ha⟩
    | 1,_=>exact ⟨Nat.le_refl 67108863,(by decide:(67108863:Nat) < 67108864)⟩
    | 2,_=>exact ⟨Nat.le_refl 67108863,(by decide:(67108863:Nat) < 67108864)⟩
    | 3,_=>exact ⟨Nat.le_refl 67108863,(by decide:(67108863:Nat) < 67108864)⟩
    | 4,_=>exact ⟨Nat.le_refl 67108863,(by decide:(67108863:Nat) < 67108864)⟩
   rw [hq,show decide ((i:Int) < 5) = true from decide_eq_true (by omega)]
   simp only [nn,tn]
   rw [zX (n:=5) hi,yG,yG,show ((z.getD i 0:Nat):Int) - ((lst.getD i 0:Nat):Int) = ((z.getD i 0 - lst.getD i 0:Nat):Int) from by omega,AZ5 (by simp only [sJ];omega),tM,zB (i:=i) (by omega)]
   simp only [cond_true])
  [a,67108863,67108863,67108863,67108863] ⟨rfl,fun _ _=>rfl⟩).1
 refine this.trans ?_
 have:=Bk9 lst a 67108863 67108863 67108863 67108863
 rw [this,show lst.getD 0 0 = 67108859 from rfl,show lst.getD 1 0 = 67108863 from rfl,show lst.getD 2 0 = 67108863 from rfl,show lst.getD 3 0 = 67108863 from rfl,show lst.getD 4 0 = 67108863 from rfl,Nat.sub_self]
theorem A5f (x:List Nat) (hx:Can x):mU R (cl x) = some (cl (RED x),()):=by
 have hq:mU R (cl x) = _:=call (Ab7 R L (cl x))
 rw [hq,AT4 x hx.l (fun z hz=>Nat.lt_of_lt_of_le (hx.b z hz) (by decide)),BW9 hx]
 simp only [Option.bind_some]
 have g:=fun i=>hx.b.get (by decide) i
 have hl:=A8S hx.l
 have r:=fun i hi=>BL1 x hx (List.replicate 5 0) i hi
 show xN R L (cl x) (List.replicate 5 0) (cl lst) ((4:Nat):Int) = _
 generalize ha:x.getD 0 0 = a at *
 generalize hb:x.getD 1 0 = b at *
 generalize hc:x.getD 2 0 = c at *
 generalize hd:x.getD 3 0 = d at *
 generalize he:x.getD 4 0 = e at *
 have ga:a < 67108864:=ha ▸ g 0
 have gb:b < 67108864:=hb ▸ g 1
 have gc:c < 67108864:=hc ▸ g 2
 have gd:d < 67108864:=hd ▸ g 3
 have ge:e < 67108864:=he ▸ g 4
 have hv:vl x = val a b c d e:=by rw [hl];rfl
 have small:val a b c d e < PP → some (cl x,()) = some (cl (RED x),()):=fun h=>by
  unfold RED
  rw [if_neg (by rw [hv];omega)]
 have end_:∀ z v2 v3,xN R L z v2 v3 (-1) = zW R L z v2 v3 0:=fun z v2 v3=>by
  have hq:xN R L z v2 v3 (-1) = _:=round (by kernel_rfl) (dK R L z v2 v3 (-1))
  rw [hq];rfl
 rw [r 4 (by decide),he]
 show (if e = 67108863 then _ else if e < 67108863 then _ else _) = _
 by_cases h4:e = 67108863
 ·rw [if_pos h4,show ((4:Nat):Int) - 1 = ((3:Nat):Int) from rfl,r 3 (by decide),hd]
  show (if d = 67108863 then _ else if d < 67108863 then _ else _) = _
  by_cases h3:d = 67108863
  ·rw [if_pos h3,show ((3:Nat):Int) - 1 = ((2:Nat):Int) from rfl,r 2 (by decide),hc]
   show (if c = 67108863 then _ else if c < 67108863 then _ else _) = _
   by_cases h2:c = 67108863
   ·rw [if_pos h2,show ((2:Nat):Int) - 1 = ((1:Nat):Int) from rfl,r 1 (by decide),hb]
    show (if b = 67108863 then _ else if b < 67108863 then _ else _) = _
    by_cases h1:b = 67108863
    ·rw [if_pos h1,show ((1:Nat):Int) - 1 = ((0:Nat):Int) from rfl,r 0 (by decide),ha,show ((0:Nat):Int) - 1 = -1 from rfl,end_]
     show (if a = 67108859 then _ else if a < 67108859 then _ else _) = _
     have big:67108859 ≤ a → zW R L (cl x) (List.replicate 5 0) (cl lst) 0 = some (cl (RED x),()):=fun h=>by
      have hx':x = [a,67108863,67108863,67108863,67108863]:=by rw [hl,h1,h2,h3,h4]
      have hv2:vl x = PP + (a - 67108859):=by rw [hv,h1,h2,h3,h4];unfold val PP;omega
      have hr:RED x = [a - 67108859,0,0,0,0]:=by
       unfold RED
       rw [if_pos (by omega),hv2,Nat.add_sub_cancel_left]
       have:=BR1 (a:=a - 67108859) (b:=0) (c:=0) (d:=0) (e:=0) (by omega) (by decide) (by decide) (by decide) (by decide)
       rw [← this,show val (a - 67108859) 0 0 0 0 = a - 67108859 from by unfold val;omega]
      rw [hr,hx']
      exact Bd9 a ga h _
     by_cases h0:a = 67108859
     ·rw [if_pos h0];exact big (by omega)
     ·rw [if_neg h0]
      by_cases h0':a < 67108859
      ·rw [if_pos h0'];exact small (by unfold val PP;omega)
      ·rw [if_neg h0'];exact big (by omega)
    ·rw [if_neg h1,if_pos (by omega)];exact small (by unfold val PP;omega)
   ·rw [if_neg h2,if_pos (by omega)];exact small (by unfold val PP;omega)
  ·rw [if_neg h3,if_pos (by omega)];exact small (by unfold val PP;omega)
 ·rw [if_neg h4,if_pos (by omega)];exact small (by unfold val PP;omega)
end Go.Rf.S

end
section
namespace Go.Rf.S
set_option maxRecDepth 100000
theorem Bc2 (a b c d e:Nat):wK Bm5 4 0 [a,b,c,d,e] = [a % 67108864,(b + a / 67108864) % 67108864,(c + (b + a / 67108864) / 67108864) % 67108864,(d + (c + (b + a / 67108864) / 67108864) / 67108864) % 67108864,e + (d + (c + (b + a / 67108864) / 67108864) / 67108864) / 67108864]:=rfl
theorem BM2 (x:List Nat) (hx:Can x):AA8 R (cl x) = some (cl (RED x),()):=by
 have hq:AA8 R (cl x) = _:=call (A5c R L (cl x))
 have g:=fun i=>hx.b.get (by decide) i
 have g0:=g 0;have g1:=g 1;have g2:=g 2;have g3:=g 3;have g4:=g 4
 have hl:=A8S hx.l
 have e0:(cl x).set (Int.toNat 0) (IntKind.wrap .i64 ((cl x).getD (Int.toNat 0) 0 + 5)) = cl (x.set 0 (x.getD 0 0 + 5)):=by
  rw [show Int.toNat 0 = 0 from rfl,yG,show (5:Int) = ((5:Nat):Int) from rfl,vP (by simp only [sJ];omega),tM]
 have:=(yL (fun (z:List Nat) i=>rK R L (cl x) (List.replicate 5 0) (cl z) i) Bm5
  (fun i z=>z.length = 5 ∧ Bd (134217728 + i * 1099511627776) z) 4
  (fun z=>cond (eqI ((z.getD 4 0 / 67108864:Nat):Int) 0) (some (cl x,())) (some (cl (z.set 4 (z.getD 4 0 % 67108864)),())))
  (fun z hs=>by
   obtain ⟨h1,h2⟩:=hs
   have hq:rK R L (cl x) (List.replicate 5 0) (cl z) (4:Nat) = _:=round (by kernel_rfl) (AW9 R L (cl x) (List.replicate 5 0) (cl z) (4:Nat))
   have hg4:=h2.get (by decide) 4
   show rK R L (cl x) (List.replicate 5 0) (cl z) (4:Nat) = _
   rw [hq,show decide (((4:Nat):Int) < 4) = false from by decide]
   simp only [cond_false]
   have ed:Int.fdiv ((cl z).getD 4 0) (2 ^ Min.min (Int.toNat 26) (IntKind.bits .i64)) = ((z.getD 4 0 / 67108864:Nat):Int):=by rw [yG];exact jO _ 26
   rw [show Int.toNat 4 = 4 from rfl,ed,yG,m26 (by simp only [sJ];omega) (by decide),tM])
  (fun x' i hi hs=>by
   obtain ⟨h1,h2⟩:=hs
   have hq:rK R L (cl x) (List.replicate 5 0) (cl x') (i:Nat) = _:=round (by kernel_rfl) (AW9 R L (cl x) (List.replicate 5 0) (cl x') (i:Nat))
   have hpos:0 < 134217728 + i * 1099511627776:=by omega
   have hg:=h2.get hpos i
   have hg1:=h2.get hpos (i + 1)
   have hmono:Bd (134217728 + (i + 1) * 1099511627776) x':=fun y hy=>Nat.lt_of_lt_of_le (h2 y hy) (by omega)
   refine ⟨?_,by simp [Bm5,h1],(hmono.set (by omega)).set (Nat.lt_of_lt_of_le (Nat.mod_lt _ (by decide)) (by omega))⟩
   show rK R L (cl x) (List.replicate 5 0) (cl x') (i:Nat) = _
   have ed:Int.fdiv ((cl x').getD i 0) (2 ^ Min.min (Int.toNat 26) (IntKind.bits .i64)) = ((x'.getD i 0 / 67108864:Nat):Int):=by rw [yG];exact jO _ 26
   rw [hq,show decide ((i:Int) < 4) = true from decide_eq_true (by omega),zB (by omega)]
   simp only [nn,tn]
   rw [zX (n:=5) (show i + 1 < 5 by omega),zX (n:=5) (show i < 5 by omega),ed,yG,vP (by simp only [sJ];omega),tM,yG,mJ (by omega),m26 (by simp only [sJ];omega) (by decide),tM]
   simp only [cond_true]
   rfl)
  (x.set 0 (x.getD 0 0 + 5)) ⟨by simp [hx.l],Bd.set (fun y hy=>Nat.lt_of_lt_of_le (hx.b y hy) (by decide)) (by omega)⟩).1
 rw [hq,e0]
 refine this.trans ?_
 generalize ha:x.getD 0 0 = a at *
 generalize hb:x.getD 1 0 = b at *
 generalize hc:x.getD 2 0 = c at *
 generalize hd:x.getD 3 0 = d at *
 generalize he:x.getD 4 0 = e at *
 have hset:x.set 0 (a + 5) = [a + 5,b,c,d,e]:=by rw [hl];rfl
 have hv:vl x = val a b c d e:=by rw [hl];rfl
 rw [hset,Bc2]
 generalize h1:b + (a + 5) / 67108864 = b1
 generalize h2:c + b1 / 67108864 = c1
 generalize h3:d + c1 / 67108864 = d1
 generalize h4:e + d1 / 67108864 = e1
 show cond (eqI ((e1 / 67108864:Nat):Int) 0) _ (some (cl [(a + 5) % 67108864,b1 % 67108864,c1 % 67108864,d1 % 67108864,e1 % 67108864],())) = _
 unfold RED
 by_cases hz:e1 / 67108864 = 0
 ·rw [hz,if_neg (by rw [hv];unfold val PP;omega)];rfl
 ·have h1':e1 / 67108864 = 1:=by omega
  rw [h1',if_pos (by rw [hv];unfold val PP;omega)]
  have hm:val ((a + 5) % 67108864) (b1 % 67108864) (c1 % 67108864) (d1 % 67108864) (e1 % 67108864) = vl x - PP:=by
   rw [hv];unfold val PP;omega
  rw [← hm,BR1 (Nat.mod_lt _ (by decide)) (Nat.mod_lt _ (by decide)) (Nat.mod_lt _ (by decide)) (Nat.mod_lt _ (by decide)) (Nat.mod_lt _ (by decide))]
  rfl
theorem Bo0 (v q s:Nat) (hq:q < 5) (hs:s < 26):(L5 v).getD q 0 / 2 ^ s % 2 = v / 2 ^ (26 * q + s) % 2:=by
 have e:(L5 v).getD q 0 = v / 2 ^ (26 * q) % 67108864:=by
  match q,hq with
  | 0,_=>show v % 67108864 = v / 2 ^ 0 % 67108864;rw [Nat.pow_zero,Nat.div_one]
  | 1,_=>rfl
  | 2,_=>rfl
  | 3,_=>rfl
  | 4,_=>rfl
 rw [e,Nat.pow_add,← Nat.div_div_eq_div_mul]
 generalize v / 2 ^ (26 * q) = m
 rw [show (67108864:Nat) = 2 ^ s * (2 * 2 ^ (25 - s)) by rw [← Nat.pow_succ',← Nat.pow_add,show s + (25 - s).succ = 26 by omega],Nat.mod_mul_right_div_self,Nat.mod_mul_right_mod]
theorem Bj7 {m b x:Nat} (h:m < 2 ^ b) (hx:x < 2):m ||| x * 2 ^ b = m + x * 2 ^ b:=by
 rcases (show x = 0 ∨ x = 1 by omega) with rfl | rfl
 ·simp
 ·rw [Nat.one_mul];exact A9k h
def stG (v:Nat) (k:List UInt8) (i:Nat) (s:List Nat × Nat):List Nat × Nat:=
 (s.1 ++ [(s.2 + (v / 2 ^ (8 * i) % 256 + bt k i)) % 256],(s.2 + (v / 2 ^ (8 * i) % 256 + bt k i)) / 256)
def Bk0 (i:Nat) (s:List Nat × Nat):Prop:=s.1.length = i ∧ s.2 ≤ 2
theorem Bk0.step {v i:Nat} {k:List UInt8} {s:List Nat × Nat} (h:Bk0 i s):Bk0 (i + 1) (stG v k i s):=by
 have hb:=qB k i
 have hm:=Nat.mod_lt (v / 2 ^ (8 * i)) (show 0 < 256 by decide)
 have h2:=h.2
 refine ⟨by simp [stG,h.1],?_⟩
 show (s.2 + (v / 2 ^ (8 * i) % 256 + bt k i)) / 256 ≤ 2
 omega
def Bp5 (v:Nat) (k:List UInt8):List UInt8:=(wK (stG v k) 16 0 ([],0)).1.map fun n=>UInt8.ofNat n
theorem BX7 (v:Nat) (k:List UInt8) (hk:k.length = 16) (i:Nat) (hi:i < 16) (o:List Int) (ho:o.length = 16) (c:Nat) (hc:c ≤ 2):
  xW R L k (cl (L5 v)) o (c:Int) (i:Int) (0:Int) (16:Nat) (i:Int) (0:Int) =
   xD R L k (cl (L5 v)) (o.set i (((c + (v / 2 ^ (8 * i) % 256 + bt k i)) % 256:Nat):Int)) (((c + (v / 2 ^ (8 * i) % 256 + bt k i)) / 256:Nat):Int) (16:Nat) ((i + 1:Nat):Int):=by
 have:=(yL (fun (w:Nat) b=>xW R L k (cl (L5 v)) o (c:Int) (i:Int) (w:Int) (16:Nat) (i:Int) b) (fun b _=>v / 2 ^ (8 * i) % 2 ^ (b + 1)) (fun b w=>w = v / 2 ^ (8 * i) % 2 ^ b) 8
  (fun w=>xD R L k (cl (L5 v)) (o.set i (((c + (w + bt k i)) % 256:Nat):Int)) (((c + (w + bt k i)) / 256:Nat):Int) (16:Nat) ((i + 1:Nat):Int))
  (fun w hw=>by
   have hq:xW R L k (cl (L5 v)) o (c:Int) (i:Int) (w:Int) (16:Nat) (i:Int) (8:Nat) = _:=round (by kernel_rfl) (bO R L k _ o (c:Int) (i:Int) (w:Int) (16:Nat) (i:Int) (8:Nat))
   show xW R L k (cl (L5 v)) o (c:Int) (i:Int) (w:Int) (16:Nat) (i:Int) (8:Nat) = _
   have hb:=qB k i
   have hw8:w < 256:=by rw [hw];exact Nat.mod_lt _ (by decide)
   have hw0:IntKind.wrap .i64 ((UInt8.toNat (k.getD i 0):Nat):Int) = ((bt k i:Nat):Int):=rA (by show bt k i < _;omega)
   rw [hq,show decide (((8:Nat):Int) < 8) = false from by decide]
   simp only [cond_false,nn,tn]
   rw [zX (by omega),zX (by omega),hw0,vP (by simp only [sJ];omega),vP (by simp only [sJ];omega),sO,zB (i:=i) (by omega)]
   simp only [cond_true]
   rw [show Int.fdiv ((c + (w + bt k i):Nat):Int) (2 ^ Min.min (Int.toNat 8) (IntKind.bits .i64)) = (((c + (w + bt k i)) / 256:Nat):Int) from jO _ 8])
  (fun w b hb hw=>by
   refine ⟨?_,rfl⟩
   have hq:xW R L k (cl (L5 v)) o (c:Int) (i:Int) (w:Int) (16:Nat) (i:Int) (b:Nat) = _:=round (by kernel_rfl) (bO R L k _ o (c:Int) (i:Int) (w:Int) (16:Nat) (i:Int) (b:Nat))
   show xW R L k (cl (L5 v)) o (c:Int) (i:Int) (w:Int) (16:Nat) (i:Int) (b:Nat) = xW R L k (cl (L5 v)) o (c:Int) (i:Int) ((v / 2 ^ (8 * i) % 2 ^ (b + 1):Nat):Int) (16:Nat) (i:Int) ((b + 1:Nat):Int)
   have e8:IntKind.wrap .i64 (IntKind.wrap .i64 (8 * (i:Int)) + (b:Int)) = ((8 * i + b:Nat):Int):=by
    rw [show (8:Int) = ((8:Nat):Int) from rfl,gS (by simp only [sJ];omega),vP (by simp only [sJ];omega)]
   have et:Int.tdiv ((8 * i + b:Nat):Int) 26 = (((8 * i + b) / 26:Nat):Int):=rfl
   have em:Int.tmod ((8 * i + b:Nat):Int) 26 = (((8 * i + b) % 26:Nat):Int):=rfl
   have hs:(8 * i + b) % 26 < 26:=Nat.mod_lt _ (by decide)
   have hm2:Min.min ((8 * i + b) % 26) (IntKind.bits .u64) = (8 * i + b) % 26:=Nat.min_eq_left (by show _ ≤ 64;omega)
   have hm3:Min.min b (IntKind.bits .i64) = b:=Nat.min_eq_left (by show _ ≤ 64;omega)
   have hg:=(Aj3 v).get (by decide) ((8 * i + b) / 26)
   have hdl:(L5 v).getD ((8 * i + b) / 26) 0 / 2 ^ ((8 * i + b) % 26) < 67108864:=Nat.lt_of_le_of_lt (Nat.div_le_self _ _) hg
   have hand:xH .and .u64 (((L5 v).getD ((8 * i + b) / 26) 0 / 2 ^ ((8 * i + b) % 26):Nat):Int) 1 = ((v / 2 ^ (8 * i) / 2 ^ b % 2:Nat):Int):=by
    rw [show (1:Int) = ((1:Nat):Int) from rfl,AT6 (by simp only [sJ];omega) (by decide),Nat.and_one_is_mod,Bo0 v _ _ (by omega) hs,Nat.div_add_mod,Nat.pow_add,← Nat.div_div_eq_div_mul]
   have hbit:v / 2 ^ (8 * i) / 2 ^ b % 2 < 2:=Nat.mod_lt _ (by decide)
   have hp:2 ^ b ≤ 128:=Nat.le_trans (Nat.pow_le_pow_right (by decide) (show b ≤ 7 by omega)) (by decide)
   have hp1:1 ≤ 2 ^ b:=Nat.one_le_two_pow
   have hmu:v / 2 ^ (8 * i) / 2 ^ b % 2 * 2 ^ b ≤ 1 * 128:=Nat.mul_le_mul (by omega) hp
   have hw':w < 2 ^ b:=by rw [hw];exact Nat.mod_lt _ (Nat.two_pow_pos _)
   rw [hq,show decide ((b:Int) < 8) = true from decide_eq_true (by omega),e8,et,em,rA (n:=(8 * i + b) / 26) (by omega)]
   simp only [nn,tn,cond_true]
   rw [zX (n:=5) (by omega),show decide ((((8 * i + b) % 26:Nat):Int) < 0) = false from decide_eq_false (by omega),show decide ((b:Int) < 0) = false from decide_eq_false (by omega),hm2,hm3,yG,jO,hand,rA (n:=v / 2 ^ (8 * i) / 2 ^ b % 2) (by omega),A7k,rA (n:=v / 2 ^ (8 * i) / 2 ^ b % 2 * 2 ^ b) (by omega),Ah6 (by simp only [sJ];omega) (by simp only [sJ];omega),zB (i:=b) (by omega),Bj7 hw' hbit,hw,← A5A]
   rfl)
  0 (by rw [Nat.pow_zero,Nat.mod_one])).1
 exact this
end Go.Rf.S

end
section
namespace Go.Rf.S
set_option maxRecDepth 100000
theorem An0 (a b:List Nat):cl (a ++ b) = cl a ++ cl b:=by unfold cl;exact List.map_append
theorem Bi3 (pre:List Nat) (n:Nat) (z:Nat):(cl pre ++ List.replicate (n + 1) (0:Int)).set pre.length (z:Int) = cl (pre ++ [z]) ++ List.replicate n (0:Int):=by
 rw [An0,List.append_assoc,List.set_append_right _ _ (by rw [fB];exact Nat.le_refl _),fB,Nat.sub_self,List.replicate_succ]
 rfl
theorem A2b (pre:List Nat):List.map (fun n:Int=>UInt8.ofNat (Int.toNat n)) (cl pre) = pre.map fun n=>UInt8.ofNat n:=by
 unfold cl
 rw [List.map_map]
 apply List.map_congr_left
 intro n _
 show UInt8.ofNat (Int.toNat (n:Int)) = _
 rw [tn]
theorem A96 (v:Nat) (k:List UInt8) (hk:k.length = 16):jJ R (cl (L5 v)) k = some (Bp5 v k,()):=by
 have hq:jJ R (cl (L5 v)) k = _:=call (As0 R L (cl (L5 v)) k)
 have:=(yL (fun (s:List Nat × Nat) i=>xD R L k (cl (L5 v)) (cl s.1 ++ List.replicate (16 - s.1.length) (0:Int)) (s.2:Int) (16:Nat) i) (stG v k) Bk0 16
  (fun s=>some (s.1.map fun n=>UInt8.ofNat n,()))
  (fun s hs=>by
   have hq:xD R L k (cl (L5 v)) (cl s.1 ++ List.replicate (16 - s.1.length) (0:Int)) (s.2:Int) (16:Nat) (16:Nat) = _:=round (by kernel_rfl) (bX R L k _ _ (s.2:Int) (16:Nat) (16:Nat))
   show xD R L k (cl (L5 v)) (cl s.1 ++ List.replicate (16 - s.1.length) (0:Int)) (s.2:Int) (16:Nat) (16:Nat) = _
   rw [hq,aC (Nat.le_refl _),hs.1,Nat.sub_self,List.replicate_zero,List.append_nil,A2b]
   rfl)
  (fun s i hi hs=>by
   refine ⟨?_,hs.step⟩
   have hq:xD R L k (cl (L5 v)) (cl s.1 ++ List.replicate (16 - s.1.length) (0:Int)) (s.2:Int) (16:Nat) (i:Nat) = _:=round (by kernel_rfl) (bX R L k _ _ (s.2:Int) (16:Nat) (i:Nat))
   show xD R L k (cl (L5 v)) (cl s.1 ++ List.replicate (16 - s.1.length) (0:Int)) (s.2:Int) (16:Nat) (i:Nat) = xD R L k (cl (L5 v)) (cl (s.1 ++ [(s.2 + (v / 2 ^ (8 * i) % 256 + bt k i)) % 256]) ++ List.replicate (16 - (s.1 ++ [(s.2 + (v / 2 ^ (8 * i) % 256 + bt k i)) % 256]).length) (0:Int)) (((s.2 + (v / 2 ^ (8 * i) % 256 + bt k i)) / 256:Nat):Int) (16:Nat) ((i + 1:Nat):Int)
   rw [hq,bL hi]
   simp only [cond_true]
   have hl:=hs.1
   rw [BX7 v k hk i hi _ (by rw [List.length_append,fB,List.length_replicate];omega) s.2 hs.2,hl,show 16 - i = (15 - i) + 1 by omega]
   have:=Bi3 s.1 (15 - i) ((s.2 + (v / 2 ^ (8 * i) % 256 + bt k i)) % 256)
   rw [hl] at this
   rw [this,List.length_append,hl,show 16 - (i + [(s.2 + (v / 2 ^ (8 * i) % 256 + bt k i)) % 256].length) = 15 - i by simp only [List.length_cons,List.length_nil];omega])
  ([],0) ⟨rfl,Nat.zero_le _⟩).1
 rw [hq]
 exact this
theorem Be6 (v i:Nat) (hi:i < 16):(18 < 8 * i % 26 → ((L5 v).getD (8 * i / 26) 0 / 2 ^ (8 * i % 26) + (L5 v).getD (8 * i / 26 + 1) 0 * 2 ^ (26 - 8 * i % 26)) % 256 = v / 2 ^ (8 * i) % 256) ∧ (¬ 18 < 8 * i % 26 → (L5 v).getD (8 * i / 26) 0 / 2 ^ (8 * i % 26) % 256 = v / 2 ^ (8 * i) % 256):=by
 obtain rfl | rfl | rfl | rfl | rfl | rfl | rfl | rfl | rfl | rfl | rfl | rfl | rfl | rfl | rfl | rfl:i = 0 ∨ i = 1 ∨ i = 2 ∨ i = 3 ∨ i = 4 ∨ i = 5 ∨ i = 6 ∨ i = 7 ∨ i = 8 ∨ i = 9 ∨ i = 10 ∨ i = 11 ∨ i = 12 ∨ i = 13 ∨ i = 14 ∨ i = 15:=by omega
 all_goals
  refine ⟨fun h=>?_,fun h=>?_⟩
  all_goals first
   | (exfalso;revert h;decide)
   | (clear h;simp only [L5,Nat.reduceMul,Nat.reduceMod,Nat.reduceDiv,Nat.reduceAdd,Nat.reduceSub,Nat.reducePow,List.getD_cons_zero,List.getD_cons_succ];omega)
theorem Bm2 (a:Nat):a &&& 255 = a % 256:=Nat.and_two_pow_sub_one_eq_mod a 8
theorem Bu2 {a:Nat} (h:a < sJ .i64):xH .and .i64 (a:Int) 255 = ((a % 256:Nat):Int):=by
 rw [show (255:Int) = ((255:Nat):Int) from rfl,AT6 h (by decide),Bm2]
theorem A8E (v:Nat) (v0:List UInt8) (h0:v0.length = 32):uO R L v0 (cl (L5 v)) ([]:List Int) (0:Int) (0:Int) = some (Bp5 v (v0.drop 16),()):=by
 have:=(yL (fun (s:List Nat × Nat) i=>uO R L v0 (cl (L5 v)) (cl s.1) (s.2:Int) i) (stG v (v0.drop 16)) Bk0 16
  (fun s=>some (s.1.map fun n=>UInt8.ofNat n,()))
  (fun s hs=>by
   have hq:uO R L v0 (cl (L5 v)) (cl s.1) (s.2:Int) (16:Nat) = _:=round (by kernel_rfl) (Ae6 R L v0 _ _ (s.2:Int) (16:Nat))
   show uO R L v0 (cl (L5 v)) (cl s.1) (s.2:Int) (16:Nat) = _
   rw [hq,show decide (((16:Nat):Int) < 16) = false from by decide,A2b]
   rfl)
  (fun s i hi hs=>by
   refine ⟨?_,hs.step⟩
   have hq:uO R L v0 (cl (L5 v)) (cl s.1) (s.2:Int) (i:Nat) = _:=round (by kernel_rfl) (Ae6 R L v0 _ _ (s.2:Int) (i:Nat))
   show uO R L v0 (cl (L5 v)) (cl s.1) (s.2:Int) (i:Nat) = uO R L v0 (cl (L5 v)) (cl (s.1 ++ [(s.2 + (v / 2 ^ (8 * i) % 256 + bt (v0.drop 16) i)) % 256])) (((s.2 + (v / 2 ^ (8 * i) % 256 + bt (v0.drop 16) i)) / 256:Nat):Int) ((i + 1:Nat):Int)
   obtain ⟨hl,hc⟩:=hs
   have hbe:bt (v0.drop 16) i = bt v0 (16 + i):=by
    unfold bt
    rw [List.getD_eq_getElem?_getD,List.getD_eq_getElem?_getD,List.getElem?_drop]
   have hb:=qB v0 (16 + i)
   have e8:IntKind.wrap .i64 (8 * (i:Int)) = ((8 * i:Nat):Int):=by rw [show (8:Int) = ((8:Nat):Int) from rfl,gS (by simp only [sJ];omega)]
   have et:Int.tdiv ((8 * i:Nat):Int) 26 = ((8 * i / 26:Nat):Int):=rfl
   have em:Int.tmod ((8 * i:Nat):Int) 26 = ((8 * i % 26:Nat):Int):=rfl
   have e16:IntKind.wrap .i64 (16 + (i:Int)) = ((16 + i:Nat):Int):=by rw [show (16:Int) = ((16:Nat):Int) from rfl,vP (by simp only [sJ];omega)]
   have hw0:IntKind.wrap .i64 ((UInt8.toNat (v0.getD (16 + i) 0):Nat):Int) = ((bt v0 (16 + i):Nat):Int):=rA (by show bt v0 (16 + i) < _;omega)
   have hs26:8 * i % 26 < 26:=Nat.mod_lt _ (by decide)
   have hmn:Min.min (8 * i % 26) (IntKind.bits .i64) = 8 * i % 26:=Nat.min_eq_left (by show _ ≤ 64;omega)
   have hg:=(Aj3 v).get (by decide) (8 * i / 26)
   have hg1:=(Aj3 v).get (by decide) (8 * i / 26 + 1)
   have hdl:(L5 v).getD (8 * i / 26) 0 / 2 ^ (8 * i % 26) ≤ (L5 v).getD (8 * i / 26) 0:=Nat.div_le_self _ _
   have hm:=Nat.mod_lt (v / 2 ^ (8 * i)) (show 0 < 256 by decide)
   obtain ⟨b1,b2⟩:=Be6 v i hi
   rw [hq,show decide ((i:Int) < 16) = true from decide_eq_true (by omega),e8,et,em,e16,rA (n:=8 * i / 26) (by omega),hbe,zB (i:=i) (by omega)]
   simp only [nn,tn,cond_true]
   rw [zX (n:=5) (show 8 * i / 26 < 5 by omega),show decide (((8 * i % 26:Nat):Int) < 0) = false from decide_eq_false (by omega),hmn,zX (n:=v0.length) (by omega),hw0,yG,jO]
   simp only [cond_true,cond_false]
   have h8:∀ z:Nat,Int.fdiv ((z:Nat):Int) (2 ^ Min.min (Int.toNat 8) (IntKind.bits .i64)) = ((z / 256:Nat):Int):=fun z=>jO _ 8
   by_cases h18:18 < 8 * i % 26
   ·rw [show decide ((18:Int) < ((8 * i % 26:Nat):Int)) = true from decide_eq_true (by omega),zB (i:=8 * i / 26) (by omega)]
    simp only [cond_true,nn,tn]
    have e26:IntKind.wrap .i64 (26 - ((8 * i % 26:Nat):Int)) = ((26 - 8 * i % 26:Nat):Int):=by rw [zI (by omega) (by omega)];omega
    have hmn2:Min.min (26 - 8 * i % 26) (IntKind.bits .i64) = 26 - 8 * i % 26:=Nat.min_eq_left (by show _ ≤ 64;omega)
    have hp2:2 ^ (26 - 8 * i % 26) ≤ 128:=Nat.le_trans (Nat.pow_le_pow_right (by decide) (show 26 - 8 * i % 26 ≤ 7 by omega)) (by decide)
    have hmul:(L5 v).getD (8 * i / 26 + 1) 0 * 2 ^ (26 - 8 * i % 26) ≤ 67108863 * 128:=Nat.mul_le_mul (by omega) hp2
    rw [zX (n:=5) (show 8 * i / 26 + 1 < 5 by omega),e26,show decide (((26 - 8 * i % 26:Nat):Int) < 0) = false from decide_eq_false (by omega),tn,hmn2,yG,A7k,rA (n:=(L5 v).getD (8 * i / 26 + 1) 0 * 2 ^ (26 - 8 * i % 26)) (by omega),vP (by simp only [sJ];omega),Bu2 (by simp only [sJ];omega),b1 h18,vP (by simp only [sJ];omega),vP (by simp only [sJ];omega),sO,h8,vU (by rw [fB];simp only [List.length_cons,List.length_nil];omega)]
    simp only [cond_true,cond_false]
    rw [An0]
    rfl
   ·rw [show decide ((18:Int) < ((8 * i % 26:Nat):Int)) = false from decide_eq_false (by omega)]
    simp only [cond_false]
    rw [Bu2 (by simp only [sJ];omega),b2 h18,vP (by simp only [sJ];omega),vP (by simp only [sJ];omega),sO,h8,vU (by rw [fB];simp only [List.length_cons,List.length_nil];omega)]
    simp only [cond_true,cond_false]
    rw [An0]
    rfl)
  ([],0) ⟨rfl,Nat.zero_le _⟩).1
 exact this
end Go.Rf.S

end
section
namespace Go.Rf.S
set_option maxRecDepth 100000
def cs (m:Int) (i:Nat) (v:List Int):List Int:=v.set i (xH .and .u8 (v.getD i 0) m)
def BV0 (v:List Int):List Int:=cs 252 12 (cs 252 8 (cs 252 4 (cs 15 15 (cs 15 11 (cs 15 7 (cs 15 3 v))))))
def AD8 (key:List UInt8):List UInt8:=List.map (fun n:Int=>UInt8.ofNat (Int.toNat n)) (BV0 (List.map (fun b:UInt8=>(b.toNat:Int)) (key.take 16)))
theorem jA (m:Int) (i:Nat) (v:List Int):(cs m i v).length = v.length:=by simp [cs]
theorem A8K {key:List UInt8} (h:16 ≤ key.length):(AD8 key).length = 16:=by
 unfold AD8 BV0
 rw [List.length_map,jA,jA,jA,jA,jA,jA,jA,List.length_map,List.length_take]
 omega
theorem ic0 (v:List Int) (hl:v.length = 16) (i:Nat) (hi:i < 16):tU R L v (i:Int) = tU R L (cs 15 i v) ((i + 4:Nat):Int):=by
 have hq:tU R L v (i:Int) = _:=round (by kernel_rfl) (AX3 R L v (i:Int))
 rw [hq,show decide ((i:Int) < 16) = true from decide_eq_true (by omega),show IntKind.wrap .i64 ((i:Int) + 4) = ((i + 4:Nat):Int) from by rw [zI (by omega) (by omega)];omega]
 simp only [nn,tn]
 rw [zX (by omega)]
 rfl
theorem ic1 (v:List Int) (hl:v.length = 16) (i:Nat) (hi:i < 16):tV R L v (i:Int) = tV R L (cs 252 i v) ((i + 4:Nat):Int):=by
 have hq:tV R L v (i:Int) = _:=round (by kernel_rfl) (AW3 R L v (i:Int))
 rw [hq,show decide ((i:Int) < 16) = true from decide_eq_true (by omega),show IntKind.wrap .i64 ((i:Int) + 4) = ((i + 4:Nat):Int) from by rw [zI (by omega) (by omega)];omega]
 simp only [nn,tn]
 rw [zX (by omega)]
 rfl
theorem sc0 (v:List Int) (hl:v.length = 16) (i:Nat) (hi:i < 16):uR R L v (i:Int) = uR R L (cs 15 i v) ((i + 4:Nat):Int):=by
 have hq:uR R L v (i:Int) = _:=round (by kernel_rfl) (AQ1 R L v (i:Int))
 rw [hq,show decide ((i:Int) < 16) = true from decide_eq_true (by omega),show IntKind.wrap .i64 ((i:Int) + 4) = ((i + 4:Nat):Int) from by rw [zI (by omega) (by omega)];omega]
 simp only [nn,tn]
 rw [zX (by omega)]
 rfl
theorem sc1 (v:List Int) (hl:v.length = 16) (i:Nat) (hi:i < 16):uX R L v (i:Int) = uX R L (cs 252 i v) ((i + 4:Nat):Int):=by
 have hq:uX R L v (i:Int) = _:=round (by kernel_rfl) (AO5 R L v (i:Int))
 rw [hq,show decide ((i:Int) < 16) = true from decide_eq_true (by omega),show IntKind.wrap .i64 ((i:Int) + 4) = ((i + 4:Nat):Int) from by rw [zI (by omega) (by omega)];omega]
 simp only [nn,tn]
 rw [zX (by omega)]
 rfl
theorem A4a (key:List UInt8) (h:16 ≤ key.length):AD2 R key = some (AD8 key,()):=by
 have hq:AD2 R key = _:=call (A4C R L key)
 rw [hq,show Int.toNat 16 = 16 from rfl,show Nat.ble 16 key.length = true from by rw [Nat.ble_eq];exact h,List.drop_zero]
 simp only [cond_true]
 have l0:(List.map (fun b:UInt8=>(b.toNat:Int)) (key.take 16)).length = 16:=by rw [List.length_map,List.length_take];omega
 unfold AD8
 generalize List.map (fun b:UInt8=>(b.toNat:Int)) (key.take 16) = v at l0 ⊢
 have e1:∀ v,tU R L v ((19:Nat):Int) = tV R L v ((4:Nat):Int):=fun v=>by
  have hq:tU R L v ((19:Nat):Int) = _:=round (by kernel_rfl) (AX3 R L v ((19:Nat):Int))
  rw [hq];rfl
 have e2:∀ v,tV R L v ((16:Nat):Int) = some (List.map (fun n:Int=>UInt8.ofNat (Int.toNat n)) v,()):=fun v=>by
  have hq:tV R L v ((16:Nat):Int) = _:=round (by kernel_rfl) (AW3 R L v ((16:Nat):Int))
  rw [hq];rfl
 show tU R L v ((3:Nat):Int) = _
 rw [ic0 v l0 3 (by decide),ic0 _ (by simp only [jA];exact l0) 7 (by decide),ic0 _ (by simp only [jA];exact l0) 11 (by decide),ic0 _ (by simp only [jA];exact l0) 15 (by decide),e1,
  ic1 _ (by simp only [jA];exact l0) 4 (by decide),ic1 _ (by simp only [jA];exact l0) 8 (by decide),ic1 _ (by simp only [jA];exact l0) 12 (by decide),e2]
 rfl
theorem BG7 (key:List UInt8) (h:16 ≤ key.length):cK R key = some (AD8 key,()):=by
 have hq:cK R key = _:=call (A3r R L key)
 rw [hq,show Int.toNat 16 = 16 from rfl,show Nat.ble 16 key.length = true from by rw [Nat.ble_eq];exact h,List.drop_zero]
 simp only [cond_true]
 have l0:(List.map (fun b:UInt8=>(b.toNat:Int)) (key.take 16)).length = 16:=by rw [List.length_map,List.length_take];omega
 unfold AD8
 generalize List.map (fun b:UInt8=>(b.toNat:Int)) (key.take 16) = v at l0 ⊢
 have e1:∀ v,uR R L v ((19:Nat):Int) = uX R L v ((4:Nat):Int):=fun v=>by
  have hq:uR R L v ((19:Nat):Int) = _:=round (by kernel_rfl) (AQ1 R L v ((19:Nat):Int))
  rw [hq];rfl
 have e2:∀ v,uX R L v ((16:Nat):Int) = some (List.map (fun n:Int=>UInt8.ofNat (Int.toNat n)) v,()):=fun v=>by
  have hq:uX R L v ((16:Nat):Int) = _:=round (by kernel_rfl) (AO5 R L v ((16:Nat):Int))
  rw [hq];rfl
 show uR R L v ((3:Nat):Int) = _
 rw [sc0 v l0 3 (by decide),sc0 _ (by simp only [jA];exact l0) 7 (by decide),sc0 _ (by simp only [jA];exact l0) 11 (by decide),sc0 _ (by simp only [jA];exact l0) 15 (by decide),e1,
  sc1 _ (by simp only [jA];exact l0) 4 (by decide),sc1 _ (by simp only [jA];exact l0) 8 (by decide),sc1 _ (by simp only [jA];exact l0) 12 (by decide),e2]
 rfl
def hF (t:List UInt8) (i:Nat):List UInt8:=(t.take (min (i + 16) t.length)).drop i ++ [1]
theorem A8g {t:List UInt8} {i:Nat} (h:i < t.length):2 ≤ (hF t i).length ∧ (hF t i).length ≤ 17:=by
 unfold hF
 rw [List.length_append,List.length_drop,List.length_take]
 simp only [List.length_cons,List.length_nil]
 omega
theorem A9O (t:List UInt8) (h:t.length ≤ 16):leV (t ++ [1]) < 680564733841876926926749214863536422912:=by
 rw [AL8]
 have h1:=A6O t
 have h2:256 ^ t.length ≤ 256 ^ 16:=Nat.pow_le_pow_right (by decide) h
 have h3:(256:Nat) ^ 16 = 340282366920938463463374607431768211456:=by decide
 have h4:leV [1] = 1:=by decide
 rw [h4]
 omega
theorem A5O {t:List UInt8} {i:Nat} (h:i < t.length):leV (hF t i) < 680564733841876926926749214863536422912:=A9O _ (by
 rw [List.length_drop,List.length_take];omega)
theorem BT6 (a b:Nat):A0W (a:Int) (b:Int) = ((min a b:Nat):Int):=by
 unfold A0W
 by_cases h:(b:Int) < (a:Int)
 ·rw [decide_eq_true h];simp only [cond_true];rw [Nat.min_eq_right (by omega)]
 ·rw [decide_eq_false h];simp only [cond_false];rw [Nat.min_eq_left (by omega)]
theorem A0K {a b:Nat} (h:a ≤ b):Nat.ble a b = true:=by rw [Nat.ble_eq];exact h
theorem A6f (v0 v1:List UInt8) (v5 v6:List Int) (v7:Int):∀ (n:Nat) (b:List UInt8),b.length + n = 17 → oK R L v0 v1 v5 v6 v7 b = (kU R (b ++ List.replicate n 0)).bind fun r0=>tW R L v0 v1 v5 v6 v7 r0.1 0
 | 0,b,h=>by
  have hq:oK R L v0 v1 v5 v6 v7 b = _:=round (by kernel_rfl) (Ah5 R L v0 v1 v5 v6 v7 b)
  rw [hq,show decide ((b.length:Int) < 17) = false from decide_eq_false (by omega),List.replicate_zero,List.append_nil]
  rfl
 | n + 1,b,h=>by
  have hq:oK R L v0 v1 v5 v6 v7 b = _:=round (by kernel_rfl) (Ah5 R L v0 v1 v5 v6 v7 b)
  rw [hq,show decide ((b.length:Int) < 17) = true from decide_eq_true (by omega),vU (by simp only [List.length_cons,List.length_nil];omega)]
  simp only [cond_true]
  rw [A6f v0 v1 v5 v6 v7 n (b ++ [0]) (by rw [List.length_append];simp only [List.length_cons,List.length_nil];omega),List.append_assoc,List.replicate_succ]
  rfl
theorem BO4 (key t:List UInt8) (hk:key.length = 32) (hl:t.length ≤ 4294967296) (r:Nat) (hr:r < 1361129467683753853853498429727072845824):
  ∀ (n i:Nat) (h g:List Nat),t.length - i ≤ n → Can h → Can g → vl h % PP = vl g % PP → i ≤ t.length + 16 →
   ∃ out,iO R L key t (cl h) (cl (L5 r)) (i:Int) = some (out,()) ∧ rH R L key t (cl (L5 r)) (cl g) (i:Int) = some (out,()) ∧ out.length = 16:=by
 have hrv:vl (L5 r) = r:=BV8 hr
 have hend:∀ (i:Nat) (h g:List Nat),t.length ≤ i → Can h → Can g → vl h % PP = vl g % PP → ∃ out,iO R L key t (cl h) (cl (L5 r)) (i:Int) = some (out,()) ∧ rH R L key t (cl (L5 r)) (cl g) (i:Int) = some (out,()) ∧ out.length = 16:=by
  intro i h g hi hh hg he
  have hq:iO R L key t (cl h) (cl (L5 r)) (i:Int) = _:=round (by kernel_rfl) (A3Z R L key t (cl h) (cl (L5 r)) (i:Int))
  have hq2:rH R L key t (cl (L5 r)) (cl g) (i:Int) = _:=round (by kernel_rfl) (Af0 R L key t (cl (L5 r)) (cl g) (i:Int))
  refine ⟨Bp5 (if PP ≤ vl h then vl h - PP else vl h) (key.drop 16),?_,?_,?_⟩
  ·rw [hq,show decide ((i:Int) < (t.length:Nat)) = false from decide_eq_false (by omega),A5f h hh,BW8 hh]
   simp only [cond_false,Option.bind_some]
   rw [show Int.toNat 16 = 16 from rfl,A0K (Nat.le_refl _),A0K (show 16 ≤ key.length by omega),List.take_length,A96 _ _ (by rw [List.length_drop];omega)]
   rfl
  ·rw [hq2,show decide ((i:Int) < (t.length:Nat)) = false from decide_eq_false (by omega),A3O g hg.l (fun z hz=>Nat.lt_of_lt_of_le (hg.b z hz) (by decide)),BW9 hg]
   simp only [cond_false,Option.bind_some]
   rw [BM2 g hg,BW8 hg,Bn0 (Bk3 hh) (Bk3 hg) he]
   simp only [Option.bind_some]
   exact A8E _ key hk
  ·have inv:∀ (m j:Nat) (s:List Nat × Nat) (v:Nat) (k:List UInt8),s.1.length = j → (wK (stG v k) m j s).1.length = j + m:=by
    intro m
    induction m with
    | zero=>intro j s v k hs;exact hs
    | succ m ih=>
     intro j s v k hs
     show (wK (stG v k) m (j + 1) (stG v k j s)).1.length = _
     rw [ih (j + 1) _ v k (by simp [stG,hs])];omega
   unfold Bp5
   rw [List.length_map,inv 16 0 _ _ _ rfl]
 intro n
 induction n with
 | zero=>intro i h g hn hh hg he hi;exact hend i h g (by omega) hh hg he
 | succ n ih=>
  intro i h g hn hh hg he hi
  rcases Nat.lt_or_ge i t.length with hlt | hge
  ·have hq:iO R L key t (cl h) (cl (L5 r)) (i:Int) = _:=round (by kernel_rfl) (A3Z R L key t (cl h) (cl (L5 r)) (i:Int))
   have hq2:rH R L key t (cl (L5 r)) (cl g) (i:Int) = _:=round (by kernel_rfl) (Af0 R L key t (cl (L5 r)) (cl g) (i:Int))
   have e16:IntKind.wrap .i64 ((i:Int) + 16) = ((i + 16:Nat):Int):=by rw [show (16:Int) = ((16:Nat):Int) from rfl,vP (by simp only [sJ];omega)]
   have hm:=A5O hlt
   obtain ⟨c1,c2⟩:=A8g hlt
   have hm130:leV (hF t i) < 1361129467683753853853498429727072845824:=by omega
   have hlv:vl (L5 (leV (hF t i))) = leV (hF t i):=BV8 hm130
   have hcut:((t.take (min (i + 16) t.length)).drop i).length ≤ 16:=by rw [List.length_drop,List.length_take];omega
   have hA:=A8k hh.b (Aj3 (leV (hF t i)))
   have hB:=A8k hg.b (Aj3 (leV (hF t i)))
   have lift:∀ {z:List Nat},Bd 134217728 z → Bd 288230376151711744 z:=fun hz y hy=>Nat.lt_of_lt_of_le (hz y hy) (by decide)
   obtain ⟨k1,k2,_⟩:=A2L (x:=ADD h (L5 (leV (hF t i)))) rfl (lift hA)
   have kB:Bd 134217728 (CAR (ADD h (L5 (leV (hF t i))))):=fun y hy=>Nat.lt_of_lt_of_le (k1.b y hy) (by decide)
   obtain ⟨m1,m2,_⟩:=A2L (x:=TIM (CAR (ADD h (L5 (leV (hF t i))))) (L5 r)) rfl (A59 kB (Aj3 r))
   obtain ⟨s1,s2,_⟩:=A2L (x:=TIM (ADD g (L5 (leV (hF t i)))) (L5 r)) rfl (A59 hB (Aj3 r))
   have hmod:vl (CAR (TIM (CAR (ADD h (L5 (leV (hF t i))))) (L5 r))) % PP = vl (CAR (TIM (ADD g (L5 (leV (hF t i)))) (L5 r))) % PP:=by
    rw [m2,s2,BS1,BS1,hrv,Nat.mul_mod,k2,BU6,BU6,hlv,Nat.add_mod (vl h),he,← Nat.add_mod,← Nat.mul_mod]
   obtain ⟨out,o1,o2,o3⟩:=ih (i + 16) _ _ (by omega) m1 s1 hmod (by omega)
   refine ⟨out,?_,?_,o3⟩
   ·rw [hq,show decide ((i:Int) < (t.length:Nat)) = true from decide_eq_true (by omega),e16,BT6]
    simp only [nn,tn,cond_true]
    rw [A0K (show min (i + 16) t.length ≤ t.length from Nat.min_le_right _ _),A0K (show i ≤ min (i + 16) t.length by omega),vU (by simp only [List.length_cons,List.length_nil];omega)]
    simp only [cond_true]
    show (iK R (hF t i)).bind _ = _
    rw [Ao6 _ c2 hm130]
    simp only [Option.bind_some]
    rw [BO0 _ _ hh.l hh.b (Aj3 _)]
    simp only [Option.bind_some]
    rw [BB4 _ _ k1.l kB (Aj3 r)]
    exact o1
   ·rw [hq2,show decide ((i:Int) < (t.length:Nat)) = true from decide_eq_true (by omega),e16,BT6,Nat.min_comm]
    simp only [nn,tn,cond_true]
    rw [A0K (show min (i + 16) t.length ≤ t.length from Nat.min_le_right _ _),A0K (show i ≤ min (i + 16) t.length by omega),vU (by simp only [List.length_cons,List.length_nil];omega)]
    simp only [cond_true]
    show oK R L key t (cl (L5 r)) (cl g) (i:Int) (hF t i) = _
    have hz:leV (hF t i ++ List.replicate (17 - (hF t i).length) 0) = leV (hF t i):=by rw [AL8,A26];simp
    have h17:(hF t i ++ List.replicate (17 - (hF t i).length) 0).length = 17:=by rw [List.length_append,List.length_replicate];omega
    have hb16:bt (hF t i ++ List.replicate (17 - (hF t i).length) 0) 16 < 4:=by
     rw [← A1q,hz]
     have:(256:Nat) ^ 16 = 340282366920938463463374607431768211456:=by decide
     rw [this]
     omega
    rw [A6f key t (cl (L5 r)) (cl g) (i:Int) (17 - (hF t i).length) (hF t i) (by omega),A3U _ h17 hb16,hz]
    simp only [Option.bind_some]
    rw [BP2 g (L5 (leV (hF t i))) hg.l hg.b (Aj3 _),A8e _ _ rfl hB (Aj3 r)]
    simp only [Option.bind_some]
    rw [e16]
    exact o2
  ·exact hend i h g hge hh hg he
theorem Bv0:Can (List.replicate 5 0):=⟨rfl,Bd.rep (by decide)⟩
theorem BM3 (key t:List UInt8) (hk:key.length = 32) (hl:t.length ≤ 4294967296):∃ out,Aq0 R key t = some (out,()) ∧ eJ R key t = some (out,()) ∧ out.length = 16:=by
 have hq:Aq0 R key t = _:=call (Bb3 R L key t)
 have hq2:eJ R key t = _:=call (A77 R L key t)
 have hcl:=A8K (key:=key) (by omega)
 have hr:leV (AD8 key) < 1361129467683753853853498429727072845824:=by
  have:=A6O (AD8 key)
  rw [hcl] at this
  exact Nat.lt_of_lt_of_le this (by decide)
 obtain ⟨out,h1,h2,h3⟩:=BO4 key t hk hl (leV (AD8 key)) hr t.length 0 (List.replicate 5 0) (List.replicate 5 0) (by omega) Bv0 Bv0 rfl (by omega)
 refine ⟨out,?_,?_,h3⟩
 ·rw [hq,A4a key (by omega)]
  simp only [Option.bind_some]
  rw [Ao6 _ (by omega) hr]
  exact h1
 ·rw [hq2,BG7 key (by omega)]
  simp only [Option.bind_some]
  have hz:leV (AD8 key ++ [0]) = leV (AD8 key):=by rw [AL8];simp [leV]
  have hb:bt (AD8 key ++ [0]) 16 < 4:=by
   unfold bt
   rw [List.getD_eq_getElem?_getD,List.getElem?_append_right (by omega),hcl]
   decide
  rw [vU (by rw [hcl];decide),A3U _ (by rw [List.length_append,hcl];rfl) hb,hz]
  exact h2
end Go.Rf.S

end
section
namespace Go.Rf.S
set_option maxRecDepth 100000
theorem Ae8 (l:List Nat):(ub l).length = l.length:=List.length_map _
theorem AV4 (v:Nat):(ub (lit v 8)).length = 8:=by rw [Ae8,bC v 8 (by decide)]
def BW3 (t:List UInt8):List UInt8:=t ++ ub (List.replicate ((16 - t.length % 16) % 16) 0)
theorem A1b (t:List UInt8):(BW3 t).length = t.length + (16 - t.length % 16) % 16:=by
 unfold BW3;rw [List.length_append,Ae8,List.length_replicate]
theorem A6P (t:List UInt8) (ht:t.length ≤ 549755813888):aH R t = some (BW3 t,()):=by
 have hq:aH R t = _:=call (A7v R L t)
 have e1:Int.tmod (t.length:Int) 16 = ((t.length % 16:Nat):Int):=rfl
 have e2:IntKind.wrap .i64 (16 - ((t.length % 16:Nat):Int)) = ((16 - t.length % 16:Nat):Int):=by rw [zI (by omega) (by omega)];omega
 have e3:Int.tmod ((16 - t.length % 16:Nat):Int) 16 = (((16 - t.length % 16) % 16:Nat):Int):=rfl
 rw [hq,e1,e2,e3,A3T _ (by omega)]
 simp (disch:=omega) only [st,Ae8,List.length_replicate]
 rfl
theorem Bm8:∀ (n:Nat) (t:List UInt8),(t.length + n) % 16 = 0 → n < 16 → t.length ≤ 549755813888 → kZ R L t = some (t ++ ub (List.replicate n 0),())
 | n,t,h,hn,ht=>by
  have hq:kZ R L t = _:=round (by kernel_rfl) (A2U R L t)
  have e1:Int.tmod (t.length:Int) 16 = ((t.length % 16:Nat):Int):=rfl
  rw [hq,e1]
  cases n with
  | zero=>
   simp (disch:=omega) only [st,Bool.not_true]
   rw [show ub (List.replicate 0 0) = [] from rfl,List.append_nil]
  | succ n=>
   simp (disch:=omega) only [st,Bool.not_false]
   rw [Bm8 n (t ++ [0]) (by rw [List.length_append];simp only [List.length_cons,List.length_nil];omega) (by omega) (by rw [List.length_append];simp only [List.length_cons,List.length_nil];omega),List.append_assoc]
   rfl
theorem A6n (t:List UInt8) (ht:t.length ≤ 549755813888):aD R t = some (BW3 t,()):=
 Eq.trans (call (A64 R L t):aD R t = _) (Bm8 _ t (by omega) (by omega) ht)
theorem A4V (v:Nat):kV R (v:Int) = some (ub (lit v 8),()):=by
 have hq:kV R (v:Int) = _:=call (A1w R L (v:Int))
 refine hq.trans (yL (fun (o:List Nat) i=>sF R L (v:Int) (cl o) i) (stL v) (fun i o=>o.length = i) 8 (fun o=>some (ub o,()))
  (fun o _=>?_) (fun o i hi ho=>⟨?_,by unfold stL;rw [List.length_append,ho];rfl⟩) [] rfl).1
 ·have hq:sF R L (v:Int) (cl o) (8:Nat) = _:=round (by kernel_rfl) (AQ7 R L (v:Int) (cl o) (8:Nat))
  show sF R L (v:Int) (cl o) (8:Nat) = _
  rw [hq,Ap4];rfl
 ·have hq:sF R L (v:Int) (cl o) (i:Nat) = _:=round (by kernel_rfl) (AQ7 R L (v:Int) (cl o) (i:Nat))
  show sF R L (v:Int) (cl o) (i:Nat) = _
  have e8:IntKind.wrap .i64 ((8:Int) * (i:Int)) = ((8 * i:Nat):Int):=by rw [zI (by omega) (by omega)];omega
  rw [hq,e8,tn,show Min.min (8 * i) (IntKind.bits .i64) = 8 * i from Nat.min_eq_left (by simp only [IntKind.bits];omega),jO,sO,zB (by omega)]
  simp (disch:=omega) only [st,dT,dF,fB]
  rw [show [((v / 2 ^ (8 * i) % 256:Nat):Int)] = cl [v / 2 ^ (8 * i) % 256] from rfl,AX8]
  rfl
noncomputable def Bg8 (key t:List UInt8):List UInt8:=((eJ R key t).getD ([],())).1
theorem Bs8 {key t:List UInt8} (hk:key.length = 32) (hl:t.length ≤ 4294967296):Aq0 R key t = some (Bg8 key t,()) ∧ eJ R key t = some (Bg8 key t,()) ∧ (Bg8 key t).length = 16:=by
 obtain ⟨out,h1,h2,h3⟩:=BM3 key t hk hl
 have e:Bg8 key t = out:=by unfold Bg8;rw [h2];rfl
 rw [e];exact ⟨h1,h2,h3⟩
noncomputable def btF (key nonce ad t:List UInt8):List UInt8:=Bg8 ((chB key nonce 0).take 32) (((BW3 ad ++ BW3 t) ++ ub (lit ad.length 8)) ++ ub (lit t.length 8))
theorem BN7 {key nonce ad t:List UInt8} (hk:key.length = 32) (hn:nonce.length = 12) (ha:ad.length ≤ 1073741824) (hl:t.length ≤ 1073741824):
  AM2 R key nonce ad t = some (btF key nonce ad t,()) ∧ AM1 R key nonce ad t = some (btF key nonce ad t,()) ∧ (btF key nonce ad t).length = 16:=by
 have hB:(chB key nonce 0).length = 64:=AT3 hk hn (by decide)
 obtain ⟨h1,h2,h3⟩:=Bs8 (key:=(chB key nonce 0).take 32) (t:=((BW3 ad ++ BW3 t) ++ ub (lit ad.length 8)) ++ ub (lit t.length 8)) (by rw [List.length_take];omega)
  (by simp only [List.length_append,A1b,AV4];omega)
 have e1:bS R key nonce 0 = some (chB key nonce 0,()):=(A1K key nonce hk hn 0 (by decide)).1
 have e2:oC R key nonce 0 = some (chB key nonce 0,()):=Az7 key nonce hk hn 0 (by decide)
 have l8:∀ v:Nat,vJ R (v:Int) 8 = some (ub (lit v 8),()):=fun v=>AN1 v 8 (by decide)
 refine ⟨?_,?_,h3⟩
 ·rw [show AM2 R key nonce ad t = _ from call (A79 R L key nonce ad t),e1,A6P ad (by omega),A6P t (by omega),l8,l8]
  simp (disch:=omega) only [st,hB,A1b,AV4,show (32:Int).toNat = 32 from rfl,List.drop_zero,h1]
  rfl
 ·rw [show AM1 R key nonce ad t = _ from call (A66 R L key nonce ad t),e2,A6n ad (by omega),A6n t (by omega),A4V,A4V]
  simp (disch:=omega) only [st,hB,A1b,AV4,show (32:Int).toNat = 32 from rfl,List.drop_zero,h2]
  rfl
theorem A3c (key nonce:List UInt8) (hk:key.length = 32) (hn:nonce.length = 12) (count:Nat) (t:List UInt8) (ht:t.length ≤ 1073741824) (hc:count ≤ 1024):∀ k,64 * k ≤ t.length + 63 →
  (A8U A8L (chB key nonce) count t k).length = min (64 * k) t.length ∧ ∀ i,i < min (64 * k) t.length → bt (A8U A8L (chB key nonce) count t k) i = bt t i ^^^ bt (chB key nonce (count + i / 64)) (i % 64)
 | 0,_=>⟨by simp [A8U],fun i hi=>by omega⟩
 | k + 1,hk'=>by
  obtain ⟨h1,h2⟩:=A3c key nonce hk hn count t ht hc k (by omega)
  have hB:(chB key nonce (count + k)).length = 64:=AT3 hk hn (by omega)
  have hl:((t.drop (64 * k)).take 64).length = min 64 (t.length - 64 * k):=by rw [List.length_take,List.length_drop]
  have hx:(A8L ((t.drop (64 * k)).take 64) (chB key nonce (count + k))).length = min 64 (t.length - 64 * k):=by rw [AV8 _ _ (by omega),hl]
  refine ⟨by rw [A8U,List.length_append,h1,hx];omega,fun i hi=>?_⟩
  rw [A8U]
  by_cases hi64:i < min (64 * k) t.length
  ·rw [Ad2 (by omega),h2 i hi64]
  ·have hb:bt ((t.drop (64 * k)).take 64) (i - min (64 * k) t.length) = bt t i:=by
    unfold bt
    rw [bW _ (by omega),List.getD_eq_getElem?_getD,List.getD_eq_getElem?_getD,List.getElem?_drop,show 64 * k + (i - min (64 * k) t.length) = i by omega]
   rw [Ab1 (by omega),h1,A1X _ _ _ (by omega) (by omega),hb,show i / 64 = k by omega,show i % 64 = i - min (64 * k) t.length by omega]
theorem BO2 (key nonce:List UInt8) (hk:key.length = 32) (hn:nonce.length = 12) (count:Nat) (t:List UInt8) (ht:t.length ≤ 1073741824) (hc:count ≤ 1024):
  A8U A8L (chB key nonce) count t ((t.length + 63) / 64) = chX key nonce (t.length / 64 + 1) count t:=by
 obtain ⟨a1,a2⟩:=A3c key nonce hk hn count t ht hc ((t.length + 63) / 64) (by omega)
 obtain ⟨b1,b2⟩:=Ak4 key nonce hk hn (t.length / 64 + 1) count t (by omega) (by omega)
 refine BA1 (by rw [a1,b1];omega) fun i hi=>?_
 rw [a1] at hi
 rw [a2 i hi,b2 i (by omega)]
theorem BN5 (key nonce:List UInt8) (hk:key.length = 32) (hn:nonce.length = 12) (count:Nat) (t:List UInt8) (ht:t.length ≤ 1048576) (hc:count ≤ 1024):
  Ad9 R key nonce (count:Int) t = some (chX key nonce (t.length / 64 + 1) count t,()):=by
 refine (A81 (f:=273) rfl _).trans (A6u (E:=EE) (f:=273) (x:=(chX key nonce (t.length / 64 + 1) count t,())) ?_ ?_)
 ·rfl
 ·rw [← BO2 key nonce hk hn count t (by omega) hc]
  exact A8n (E:=EE) rfl A8L (chB key nonce) key nonce t count ht (by omega)
   (fun c hc=>A7L _ _ _ (A1K key nonce hk hn c (by omega)).1)
   (fun a c hc ha=>A7L _ _ _ (Bt5 a (chB key nonce c) (by rw [AT3 hk hn (by omega)];exact ha) (by rw [AT3 hk hn (by omega)];decide)))
   (fun a c hc ha=>by rw [AV8 _ _ (by rw [AT3 hk hn (by omega)];exact ha)];exact ha)
end Go.Rf.S

end
section
namespace Go.Rf.S
set_option maxRecDepth 100000
def BS4 (kind place epoch:Nat):List UInt8:=((ub (lit kind 1) ++ ub (lit place 2)) ++ ub (lit 0 1)) ++ ub (lit epoch 8)
theorem BM9 (a b c:Nat):(BS4 a b c).length = 12:=by
 unfold BS4
 simp only [List.length_append,Ae8,bC _ _ (show 8 ≤ 8 by decide),bC _ _ (show 1 ≤ 8 by decide),bC _ _ (show 2 ≤ 8 by decide)]
theorem BD5 (a b c:Nat):AA9 R (a:Int) (b:Int) (c:Int) = some (BS4 a b c,()) ∧ cU R (a:Int) (b:Int) (c:Int) = some (BS4 a b c,()):=by
 have e1:∀ v:Nat,vJ R (v:Int) 1 = some (ub (lit v 1),()):=fun v=>AN1 v 1 (by decide)
 have e2:∀ v:Nat,vJ R (v:Int) 2 = some (ub (lit v 2),()):=fun v=>AN1 v 2 (by decide)
 have e8:∀ v:Nat,vJ R (v:Int) 8 = some (ub (lit v 8),()):=fun v=>AN1 v 8 (by decide)
 have e0:vJ R 0 1 = some (ub (lit 0 1),()):=e1 0
 have l1:∀ v,(ub (lit v 1)).length = 1:=fun v=>by rw [Ae8,bC _ _ (by decide)]
 have l2:∀ v,(ub (lit v 2)).length = 2:=fun v=>by rw [Ae8,bC _ _ (by decide)]
 constructor
 ·rw [show AA9 R (a:Int) (b:Int) (c:Int) = _ from call (A5Q R L (a:Int) (b:Int) (c:Int)),e1,e2,e0,e8]
  simp (disch:=omega) only [st,l1,l2,AV4]
  rfl
 ·have hm:Min.min (8:Int).toNat (IntKind.bits .i64) = 8:=rfl
  rw [show cU R (a:Int) (b:Int) (c:Int) = _ from call (A3G R L (a:Int) (b:Int) (c:Int)),A4V,hm,jO,sO,sO,sO]
  rw [show [((a % 256:Nat):Int),((b % 256:Nat):Int),((b / 2 ^ 8 % 256:Nat):Int),0] = cl [a % 256,b % 256,b / 2 ^ 8 % 256,0] from rfl,Ap4]
  simp (disch:=omega) only [st,AV4,Ae8,List.length_cons,List.length_nil]
  have:ub [a % 256,b % 256,b / 2 ^ 8 % 256,0] = (ub (lit a 1) ++ ub (lit b 2)) ++ ub (lit 0 1):=by
   have f1:lit a 1 = [a / 2 ^ 0 % 256]:=rfl
   have f2:lit b 2 = [b / 2 ^ 0 % 256,b / 2 ^ 8 % 256]:=rfl
   have f3:lit 0 1 = [0]:=rfl
   rw [f1,f2,f3,Nat.pow_zero,Nat.div_one,Nat.div_one];rfl
  rw [this];rfl
def blk:List UInt8:=[98,108,111,99,107]
noncomputable def Br7 (key nonce ad t:List UInt8):List UInt8:=chX key nonce (t.length / 64 + 1) 1 t ++ btF key nonce ad (chX key nonce (t.length / 64 + 1) 1 t)
theorem BX9 {key nonce:List UInt8} (hk:key.length = 32) (hn:nonce.length = 12) (t:List UInt8) (ht:t.length ≤ 1048576):(chX key nonce (t.length / 64 + 1) 1 t).length = t.length:=
 (Ak4 key nonce hk hn (t.length / 64 + 1) 1 t (by omega) (by omega)).1
noncomputable def Be5 (key:List UInt8) (a b c:Nat) (t:List UInt8):List UInt8:=Br7 key (BS4 a b c) blk t
def BJ7 (a b:List UInt8):List UInt8:=dig (([1] ++ a) ++ b)
def A8C (at_:Nat) (t:List UInt8):List UInt8:=dig (ub [0,at_ % 256] ++ t)
theorem BW7 {a b:List UInt8} (ha:a.length ≤ 1048576) (hb:b.length ≤ 1048576):Al1 R a b = some (BJ7 a b,()) ∧ aQ R a b = some (BJ7 a b,()):=by
 have hl:(([1] ++ a) ++ b).length ≤ 549755813888:=by simp only [List.length_append,List.length_cons,List.length_nil];omega
 constructor
 ·rw [show Al1 R a b = _ from call (BK2 R L a b),A5x _ hl]
  simp (disch:=omega) only [st];rfl
 ·rw [show aQ R a b = _ from call (A4e R L a b),A9n _ hl]
  simp (disch:=omega) only [st];rfl
theorem BT2 (i:Nat) {t:List UInt8} (ht:t.length ≤ 1048576):gQ R (i:Int) t = some (A8C i t,()) ∧ AA2 R (i:Int) t = some (A8C i t,()):=by
 have e:List.map (fun n:Int=>UInt8.ofNat (Int.toNat n)) [(0:Int),IntKind.wrap .u8 (i:Int)] = ub [0,i % 256]:=by
  rw [sO,show [(0:Int),((i % 256:Nat):Int)] = cl [0,i % 256] from rfl,Ap4]
 have hl:(ub [0,i % 256] ++ t).length ≤ 549755813888:=by rw [List.length_append,Ae8];simp only [List.length_cons,List.length_nil];omega
 have h2:(ub [0,i % 256]).length = 2:=rfl
 constructor
 ·rw [show gQ R (i:Int) t = _ from call (Au6 R L (i:Int) t),e,A5x _ hl]
  simp (disch:=omega) only [st,h2];rfl
 ·rw [show AA2 R (i:Int) t = _ from call (A4m R L (i:Int) t),e,A9n _ hl]
  simp (disch:=omega) only [st,h2];rfl
def uV:List (List UInt8) → List (List UInt8)
 | a :: b :: r=>BJ7 a b :: uV r
 | _=>[]
def Sh (l:List (List UInt8)):Prop:=∀ s ∈ l,s.length ≤ 1048576
theorem AB1:∀ l,Sh (uV l)
 | []=>fun s h=>by cases h
 | [_]=>fun s h=>by cases h
 | a :: b :: r=>fun s h=>by
  rcases List.mem_cons.1 h with rfl | h
  ·unfold BJ7;rw [BA0];decide
  ·exact AB1 r s h
theorem AH9:∀ l:List (List UInt8),(uV l).length = l.length / 2
 | []=>rfl
 | [x]=>by show 0 = 1 / 2;rfl
 | a :: b :: r=>by
  show (uV r).length + 1 = (r.length + 2) / 2
  rw [AH9 r];omega
theorem A9X (v3:List (List UInt8)) (v6:List (List (List UInt8))) (hs:Sh v3) (h3:v3.length ≤ 64) (h6:v6.length ≤ 64):∀ (r v7:List (List UInt8)) (j:Nat),j ≤ v3.length → v3.drop j = r → r.length % 2 = 0 → v7.length + r.length ≤ 128 →
  iM R L v3 v6 v7 (j:Int) = qV R L (v7 ++ uV r) (v6 ++ [v7 ++ uV r])
 | [],v7,j,hj,hr,_,h7=>by
  have hj:v3.length ≤ j:=List.drop_eq_nil_iff.1 hr
  rw [show iM R L v3 v6 v7 (j:Int) = _ from round (by kernel_rfl) (Az1 R L v3 v6 v7 (j:Int))]
  simp (disch:=omega) only [st,dF]
  rw [show uV [] = [] from rfl,List.append_nil]
 | [_],v7,j,hj,hr,h,h7=>by simp at h
 | a :: b :: r,v7,j,_,hr,h,h7=>by
  obtain ⟨d1,d2,d3,d4⟩:=Bn4 (d:=[]) hr
  have hj:=BW7 (hs a (by rw [← d2];exact sL (by omega))) (hs b (by rw [← d3];exact sL (by omega)))
  simp only [List.length_cons] at h h7
  rw [show iM R L v3 v6 v7 (j:Int) = _ from round (by kernel_rfl) (Az1 R L v3 v6 v7 (j:Int)),A3o (by omega),zB (by omega)]
  simp (disch:=omega) only [st,dT,d2,d3,hj.1]
  rw [A9X v3 v6 hs h3 h6 r _ (j + 2) (by omega) d4 (by omega) (by rw [List.length_append];simp only [List.length_cons,List.length_nil];omega),List.append_assoc]
  rfl
theorem BG5 (v3:List (List UInt8)) (hs:Sh v3) (h3:v3.length ≤ 64):∀ (r v7:List (List UInt8)) (j:Nat),j ≤ v3.length → v3.drop j = r → r.length % 2 = 0 → v7.length + r.length ≤ 128 →
  pP R L v3 v7 (j:Int) = some (v7 ++ uV r,())
 | [],v7,j,hj,hr,_,h7=>by
  have hj:v3.length ≤ j:=List.drop_eq_nil_iff.1 hr
  rw [show pP R L v3 v7 (j:Int) = _ from round (by kernel_rfl) (AO8 R L v3 v7 (j:Int)),zB (by omega)]
  simp (disch:=omega) only [st,dF]
  rw [show uV [] = [] from rfl,List.append_nil]
 | [_],v7,j,hj,hr,h,h7=>by simp at h
 | a :: b :: r,v7,j,_,hr,h,h7=>by
  obtain ⟨d1,d2,d3,d4⟩:=Bn4 (d:=[]) hr
  have hj:=BW7 (hs a (by rw [← d2];exact sL (by omega))) (hs b (by rw [← d3];exact sL (by omega)))
  simp only [List.length_cons] at h h7
  rw [show pP R L v3 v7 (j:Int) = _ from round (by kernel_rfl) (AO8 R L v3 v7 (j:Int)),A3o (by omega),zB (by omega)]
  simp (disch:=omega) only [st,dT,d2,d3,hj.2]
  rw [BG5 v3 hs h3 r _ (j + 2) (by omega) d4 (by omega) (by rw [List.length_append];simp only [List.length_cons,List.length_nil];omega),List.append_assoc]
  rfl
def rB (l:List (List UInt8)):List (List UInt8):=l.mapIdx A8C
theorem A5H (l:List (List UInt8)):(rB l).length = l.length:=List.length_mapIdx
theorem Ay6 (l:List (List UInt8)):Sh (rB l):=fun s h=>by
 obtain ⟨i,hi,rfl⟩:=List.mem_mapIdx.1 h
 unfold A8C;rw [BA0];decide
def A5W (l:List (List UInt8)):List UInt8:=(uV (uV (uV (uV (rB l))))).getD 0 []
theorem BQ7 {v3:List (List UInt8)} {v6:List (List (List UInt8))} (hs:Sh v3) (h3:v3.length ≤ 64) (h1:1 < v3.length) (h2:v3.length % 2 = 0) (h6:v6.length ≤ 64):
  qV R L v3 v6 = qV R L (uV v3) (v6 ++ [uV v3]):=by
 rw [show qV R L v3 v6 = _ from round (by kernel_rfl) (A0Y R L v3 v6)]
 simp (disch:=omega) only [st,dT]
 exact A9X v3 v6 hs h3 h6 v3 [] 0 (Nat.zero_le _) rfl h2 (by simp only [List.length_nil];omega)
theorem BI9 {v3:List (List UInt8)} (hs:Sh v3) (h3:v3.length ≤ 64) (h1:1 < v3.length) (h2:v3.length % 2 = 0):qR R L v3 = qR R L (uV v3):=by
 have e:cN R v3 = some (uV v3,()):=Eq.trans (call (A3Q R L v3):cN R v3 = _) (BG5 v3 hs h3 v3 [] 0 (Nat.zero_le _) rfl h2 (by simp only [List.length_nil];omega))
 rw [show qR R L v3 = _ from round (by kernel_rfl) (AY1 R L v3),e]
 simp (disch:=omega) only [st,dT]
theorem BT7 {l:List (List UInt8)} (hl:l.length = 16) (hs:Sh l):Ak7 R l = some (A5W l,()) ∧ AB4 R l = some (A5W l,()):=by
 have a0:=A5H l
 have a1:=AH9 (rB l)
 have a2:=AH9 (uV (rB l))
 have a3:=AH9 (uV (uV (rB l)))
 have a4:=AH9 (uV (uV (uV (rB l))))
 constructor
 ·have e0:kH R L [] l (l.length:Int) 0 = qV R L (rB l) [rB l]:=
   A9C (fun o i=>kH R L o l (l.length:Int) i) l [] A8C (fun o=>qV R L o [o]) []
    (fun o ho=>by
     rw [show kH R L o l (l.length:Int) (l.length:Nat) = _ from round (by kernel_rfl) (A0M R L o l (l.length:Int) (l.length:Nat))]
     simp (disch:=omega) only [st,dF])
    (fun o i hi ho=>by
     rw [show kH R L o l (l.length:Int) (i:Nat) = _ from round (by kernel_rfl) (A0M R L o l (l.length:Int) (i:Nat)),zB (by omega)]
     simp only [List.length_nil] at ho
     simp (disch:=omega) only [st,dT,(BT2 i (hs _ (sL hi))).1])
  have e:Ak0 R l = some ([rB l,uV (rB l),uV (uV (rB l)),uV (uV (uV (rB l))),uV (uV (uV (uV (rB l))))],()):=by
   rw [show Ak0 R l = _ from call (BK0 R L l),e0,BQ7 (Ay6 l) (by omega) (by omega) (by omega) (by simp),BQ7 (AB1 _) (by omega) (by omega) (by omega) (by simp),BQ7 (AB1 _) (by omega) (by omega) (by omega) (by simp),BQ7 (AB1 _) (by omega) (by omega) (by omega) (by simp)]
   generalize hV:([rB l] ++ [uV (rB l)] ++ [uV (uV (rB l))] ++ [uV (uV (uV (rB l)))] ++ [uV (uV (uV (uV (rB l))))]) = V
   rw [show qV R L (uV (uV (uV (uV (rB l))))) V = _ from round (by kernel_rfl) (A0Y R L _ _)]
   simp (disch:=omega) only [st,dF]
   rw [← hV];rfl
  rw [show Ak7 R l = _ from call (BP6 R L l),e]
  show cond (Nat.blt 4 5) (cond (Nat.blt 0 (uV (uV (uV (uV (rB l))))).length) (some (A5W l,())) none) none = _
  rw [zX (show 0 < (uV (uV (uV (uV (rB l))))).length by omega)];rfl
 ·have e:fT R l = some (rB l,()):=Eq.trans (call (A1l R L l):fT R l = _)
   (A9C (fun o i=>qC R L l o i) l [] A8C (fun o=>some (o,())) []
    (fun o ho=>by
     rw [show qC R L l o (l.length:Nat) = _ from round (by kernel_rfl) (AG8 R L l o (l.length:Nat))]
     simp (disch:=omega) only [st,dF])
    (fun o i hi ho=>by
     rw [show qC R L l o (i:Nat) = _ from round (by kernel_rfl) (AG8 R L l o (i:Nat)),zB (by omega)]
     simp only [List.length_nil] at ho
     simp (disch:=omega) only [st,dT,(BT2 i (hs _ (sL hi))).2]))
  rw [show AB4 R l = _ from call (A4B R L l),e]
  simp only [st]
  rw [BI9 (Ay6 l) (by omega) (by omega) (by omega),BI9 (AB1 _) (by omega) (by omega) (by omega),BI9 (AB1 _) (by omega) (by omega) (by omega),BI9 (AB1 _) (by omega) (by omega) (by omega)]
  rw [show qR R L (uV (uV (uV (uV (rB l))))) = _ from round (by kernel_rfl) (AY1 R L _)]
  simp (disch:=omega) only [st,dF]
  rfl
end Go.Rf.S

end
section
namespace Go.Rf.S
set_option maxRecDepth 100000
theorem AR1:∀ (n m:Nat) (v2 v3:List UInt8),v3.length + n ≤ 1048576 → m < 10 ^ n → m ≤ 4611686018427387904 → ∃ t,pD R L m v2 v3 = some (t,())
 | 0,m,v2,v3,hl,hm,hb=>by
  have hq:pD R L m v2 v3 = _:=round (by kernel_rfl) (AP5 R L m v2 v3)
  have hm:m = 0:=by simpa using hm
  rw [hq,show decide ((0:Int) < (m:Int)) = false from decide_eq_false (by omega)]
  simp only [cond_false]
  rw [vU (by simp only [List.length_cons,List.length_nil];omega)]
  exact ⟨_,rfl⟩
 | n + 1,m,v2,v3,hl,hm,hb=>by
  have hq:pD R L m v2 v3 = _:=round (by kernel_rfl) (AP5 R L m v2 v3)
  by_cases h0:m = 0
  ·rw [hq,show decide ((0:Int) < (m:Int)) = false from decide_eq_false (by omega)]
   simp only [cond_false]
   rw [vU (by simp only [List.length_cons,List.length_nil];omega)]
   exact ⟨_,rfl⟩
  ·rw [hq,show decide ((0:Int) < (m:Int)) = true from decide_eq_true (by omega),vU (by simp only [List.length_map,List.length_cons,List.length_nil];omega)]
   simp only [cond_true]
   rw [show Int.tdiv (m:Int) 10 = ((m / 10:Nat):Int) from rfl,zI (n:=((m / 10:Nat):Int)) (by omega) (by omega)]
   exact AR1 n (m / 10) v2 _ (by simp only [List.length_append,List.length_map,List.length_cons,List.length_nil];omega) (by rw [Nat.pow_succ] at hm;omega) (by omega)
theorem A2h (m:Nat) (h:m ≤ 4611686018427387904):∃ t,qO R m = some (t,()):=by
 have hq:qO R m = _:=call (A3g R L m)
 rw [hq]
 by_cases h0:m = 0
 ·rw [show decide ((m:Int) ≤ (0:Int)) = true from decide_eq_true (by omega)];exact ⟨_,rfl⟩
 ·rw [show decide ((m:Int) ≤ (0:Int)) = false from decide_eq_false (by omega)]
  exact AR1 19 m [] [] (by simp) (Nat.lt_of_le_of_lt h (by decide)) h
noncomputable def mt (k:Nat):List UInt8:=((qO R k).getD ([],())).1
theorem AU9 (m:Nat) (h:m ≤ 4611686018427387904):qO R m = some (mt m,()):=by
 obtain ⟨t,e⟩:=A2h m h
 unfold mt
 rw [e];rfl
abbrev wX:Ty:=(.pair (.int .i64) (.pair (.int .i64) (.pair (.int .i64) (.pair (.int .i64) (.pair .str (.pair .str (.pair .str .unit)))))))
abbrev iG:Type:=(Int × (Int × (Int × (Int × (List UInt8 × (List UInt8 × (List UInt8 × Unit)))))))
theorem A5T (x:iG) (l:Int) (h0:0 ≤ l) (h1:l ≤ 1048576) (hx:Aj9 wX x):gL R x l = some (szF (cnt wX x) l,()):=by
 have hq:gL R x l = _:=call (Ax1 R L x l)
 have hc:cnt wX x = (0 + (0 + (0 + (0 + (x.2.2.2.2.1.length + (x.2.2.2.2.2.1.length + (x.2.2.2.2.2.2.1.length + (0)))))))):=rfl
 rw [hq]
 have k1:x.2.2.2.2.1.length ≤ maxLen:=hx.2.2.2.2.1
 unfold maxLen at k1
 rw [zI (n:=(l - (x.2.2.2.2.1.length:Int))) (by omega) (by omega)]
 by_cases n1:l - (x.2.2.2.2.1.length:Int) < 0
 ·rw [decide_eq_true n1,hc,AE5 (by omega)];rfl
 rw [decide_eq_false n1]
 simp only [cond_false]
 have k2:x.2.2.2.2.2.1.length ≤ maxLen:=hx.2.2.2.2.2.1
 unfold maxLen at k2
 rw [zI (n:=(l - (x.2.2.2.2.1.length:Int) - (x.2.2.2.2.2.1.length:Int))) (by omega) (by omega)]
 by_cases n2:l - (x.2.2.2.2.1.length:Int) - (x.2.2.2.2.2.1.length:Int) < 0
 ·rw [decide_eq_true n2,hc,AE5 (by omega)];rfl
 rw [decide_eq_false n2]
 simp only [cond_false]
 have k3:x.2.2.2.2.2.2.1.length ≤ maxLen:=hx.2.2.2.2.2.2.1
 unfold maxLen at k3
 rw [zI (n:=(l - (x.2.2.2.2.1.length:Int) - (x.2.2.2.2.2.1.length:Int) - (x.2.2.2.2.2.2.1.length:Int))) (by omega) (by omega)]
 by_cases n3:l - (x.2.2.2.2.1.length:Int) - (x.2.2.2.2.2.1.length:Int) - (x.2.2.2.2.2.2.1.length:Int) < 0
 ·rw [decide_eq_true n3,hc,AE5 (by omega)];rfl
 rw [decide_eq_false n3]
 simp only [cond_false]
 rw [hc,Au0 (by omega)]
 exact congrArg (fun z=>some (z,())) (by omega)
theorem A7d (x:List (List UInt8)) (l:Int) (h0:0 ≤ l) (h1:l ≤ 1048576) (hx:Aj9 (.sl .str) x):eG R x l = some (szF (cnt (.sl .str) x) l,()):=by
 have hq:eG R x l = _:=call (A0u R L x l)
 have hm:x.length ≤ maxLen:=hx.1
 unfold maxLen at hm
 have hc:cnt (.sl .str) x = x.length + (x.map (cnt .str)).sum:=rfl
 rw [hq,zI (n:=l - (x.length:Int)) (by omega) (by omega)]
 by_cases n0:l - (x.length:Int) < 0
 ·rw [decide_eq_true n0,AE5 (by omega)];rfl
 rw [decide_eq_false n0]
 simp only [cond_false]
 have e:=BE8 (fun l i=>vR R L x l 0 i) x ([]:List UInt8) (cnt .str) (fun l=>by
  have hq:vR R L x l 0 (x.length:Nat) = _:=round (by kernel_rfl) (AH4 R L x l 0 (x.length:Nat))
  show vR R L x l 0 (x.length:Nat) = _
  rw [hq,aC (Nat.le_refl _)];rfl) (fun l i hlt h0 h1=>by
  have hq:vR R L x l 0 i = _:=round (by kernel_rfl) (AH4 R L x l 0 i)
  have hm:=A6l (t:=.str) hx _ (sL (d:=([]:List UInt8)) hlt)
  show vR R L x l 0 i = _
  rw [hq,bL hlt,nn,tn,zX hlt,zB (i:=i) (by omega)]
  simp only [cond_true]
  have hm:(x.getD i []).length ≤ maxLen:=hm
  unfold maxLen at hm
  show _ = if ((x.getD i []).length:Int) ≤ l then vR R L x (l - ((x.getD i []).length:Int)) 0 ((i + 1:Nat):Int) else some (-1,())
  rw [zI (n:=l - ((x.getD i []).length:Int)) (by omega) (by omega)]
  by_cases n:((x.getD i []).length:Int) ≤ l
  ·rw [if_pos n,decide_eq_false (by omega)];rfl
  ·rw [if_neg n,decide_eq_true (by omega)];rfl) _ 0 (l - (x.length:Int)) rfl (Nat.zero_le _) (by omega) (by omega)
 rw [hc,← BB1 (by omega)]
 exact e
abbrev kE:Ty:=(.pair (.int .i64) (.pair .str .unit))
abbrev A1p:Type:=(Int × (List UInt8 × Unit))
theorem Br2 (x:A1p) (l:Int) (h0:0 ≤ l) (h1:l ≤ 1048576) (hx:Aj9 kE x):Al4 R x l = some (szF (cnt kE x) l,()):=by
 have hq:Al4 R x l = _:=call (BM5 R L x l)
 have hc:cnt kE x = (0 + (x.2.1.length + (0))):=rfl
 rw [hq]
 have k1:x.2.1.length ≤ maxLen:=hx.2.1
 unfold maxLen at k1
 rw [zI (n:=(l - (x.2.1.length:Int))) (by omega) (by omega)]
 by_cases n1:l - (x.2.1.length:Int) < 0
 ·rw [decide_eq_true n1,hc,AE5 (by omega)];rfl
 rw [decide_eq_false n1]
 simp only [cond_false]
 rw [hc,Au0 (by omega)]
 exact congrArg (fun z=>some (z,())) (by omega)
theorem Bn1 (x:List (A1p)) (l:Int) (h0:0 ≤ l) (h1:l ≤ 1048576) (hx:Aj9 (.sl kE) x):AX7 R x l = some (szF (cnt (.sl kE) x) l,()):=by
 have hq:AX7 R x l = _:=call (BC3 R L x l)
 have hm:x.length ≤ maxLen:=hx.1
 unfold maxLen at hm
 have hc:cnt (.sl kE) x = x.length + (x.map (cnt kE)).sum:=rfl
 rw [hq,zI (n:=l - (x.length:Int)) (by omega) (by omega)]
 by_cases n0:l - (x.length:Int) < 0
 ·rw [decide_eq_true n0,AE5 (by omega)];rfl
 rw [decide_eq_false n0]
 simp only [cond_false]
 have e:=BE8 (fun l i=>pX R L x l 0 i) x ((0:Int),(([]:List UInt8),())) (cnt kE) (fun l=>by
  have hq:pX R L x l 0 (x.length:Nat) = _:=round (by kernel_rfl) (At0 R L x l 0 (x.length:Nat))
  show pX R L x l 0 (x.length:Nat) = _
  rw [hq,aC (Nat.le_refl _)];rfl) (fun l i hlt h0 h1=>by
  have hq:pX R L x l 0 i = _:=round (by kernel_rfl) (At0 R L x l 0 i)
  have hm:=A6l (t:=kE) hx _ (sL (d:=((0:Int),(([]:List UInt8),()))) hlt)
  show pX R L x l 0 i = _
  rw [hq,bL hlt,nn,tn,zX hlt,zB (i:=i) (by omega)]
  simp only [cond_true]
  rw [Br2 _ l h0 h1 hm]
  simp only [Option.bind_some]
  by_cases n:((cnt kE (x.getD i ((0:Int),(([]:List UInt8),()))):Nat):Int) ≤ l
  ·rw [if_pos n,Au0 n,decide_eq_false (by omega)];rfl
  ·rw [if_neg n,AE5 (by omega)];rfl) _ 0 (l - (x.length:Int)) rfl (Nat.zero_le _) (by omega) (by omega)
 rw [hc,← BB1 (by omega)]
 exact e
abbrev vE:Ty:=(.pair (.sl .str) (.pair (.sl kE) .unit))
abbrev oL:Type:=(List (List UInt8) × (List (A1p) × Unit))
theorem A8u (x:oL) (l:Int) (h0:0 ≤ l) (h1:l ≤ 1048576) (hx:Aj9 vE x):cX R x l = some (szF (cnt vE x) l,()):=by
 have hq:cX R x l = _:=call (A3z R L x l)
 have hc:cnt vE x = (cnt (.sl .str) x.1 + (cnt (.sl kE) x.2.1 + (0))):=rfl
 rw [hq]
 rw [A7d x.1 (l) (by omega) (by omega) hx.1]
 simp only [Option.bind_some]
 by_cases n1:l < (cnt (.sl .str) x.1:Int)
 ·rw [AE5 n1,hc,AE5 (by omega)];rfl
 rw [Au0 (by omega),show decide (l - (cnt (.sl .str) x.1:Int) < 0) = false from decide_eq_false (by omega)]
 simp only [cond_false]
 rw [Bn1 x.2.1 (l - (cnt (.sl .str) x.1:Int)) (by omega) (by omega) hx.2.1]
 simp only [Option.bind_some]
 by_cases n2:l - (cnt (.sl .str) x.1:Int) < (cnt (.sl kE) x.2.1:Int)
 ·rw [AE5 n2,hc,AE5 (by omega)];rfl
 rw [Au0 (by omega),show decide (l - (cnt (.sl .str) x.1:Int) - (cnt (.sl kE) x.2.1:Int) < 0) = false from decide_eq_false (by omega)]
 simp only [cond_false]
 rw [hc,Au0 (by omega)]
 exact congrArg (fun z=>some (z,())) (by omega)
abbrev tF:Ty:=(.pair .str (.pair wX (.pair vE (.pair .bool (.pair .bool .unit)))))
abbrev yD:Type:=(List UInt8 × (iG × (oL × (Bool × (Bool × Unit)))))
theorem BO7 (x:yD) (l:Int) (h0:0 ≤ l) (h1:l ≤ 1048576) (hx:Aj9 tF x):AB7 R x l = some (szF (cnt tF x) l,()):=by
 have hq:AB7 R x l = _:=call (A4j R L x l)
 have hc:cnt tF x = (x.1.length + (cnt wX x.2.1 + (cnt vE x.2.2.1 + (0 + (0 + (0)))))):=rfl
 rw [hq]
 have k1:x.1.length ≤ maxLen:=hx.1
 unfold maxLen at k1
 rw [zI (n:=(l - (x.1.length:Int))) (by omega) (by omega)]
 by_cases n1:l - (x.1.length:Int) < 0
 ·rw [decide_eq_true n1,hc,AE5 (by omega)];rfl
 rw [decide_eq_false n1]
 simp only [cond_false]
 rw [A5T x.2.1 (l - (x.1.length:Int)) (by omega) (by omega) hx.2.1]
 simp only [Option.bind_some]
 by_cases n2:l - (x.1.length:Int) < (cnt wX x.2.1:Int)
 ·rw [AE5 n2,hc,AE5 (by omega)];rfl
 rw [Au0 (by omega),show decide (l - (x.1.length:Int) - (cnt wX x.2.1:Int) < 0) = false from decide_eq_false (by omega)]
 simp only [cond_false]
 rw [A8u x.2.2.1 (l - (x.1.length:Int) - (cnt wX x.2.1:Int)) (by omega) (by omega) hx.2.2.1]
 simp only [Option.bind_some]
 by_cases n3:l - (x.1.length:Int) - (cnt wX x.2.1:Int) < (cnt vE x.2.2.1:Int)
 ·rw [AE5 n3,hc,AE5 (by omega)];rfl
 rw [Au0 (by omega),show decide (l - (x.1.length:Int) - (cnt wX x.2.1:Int) - (cnt vE x.2.2.1:Int) < 0) = false from decide_eq_false (by omega)]
 simp only [cond_false]
 rw [hc,Au0 (by omega)]
 exact congrArg (fun z=>some (z,())) (by omega)
theorem A5G (x:iG) (hx:cnt wX x ≤ 1048576):gJ R x = some (x,()):=by
 have hq:gJ R x = _:=call (Au3 R L x)
 have hc:cnt wX x = (0 + (0 + (0 + (0 + (x.2.2.2.2.1.length + (x.2.2.2.2.2.1.length + (x.2.2.2.2.2.2.1.length + (0)))))))):=rfl
 refine hq.trans ?_
 rfl
theorem A67 (x:List (List UInt8)) (hx:cnt (.sl .str) x ≤ 1048576):fW R x = some (x,()):=by
 have hq:fW R x = _:=call (A1V R L x)
 have hc:cnt (.sl .str) x = x.length + (x.map (cnt .str)).sum:=rfl
 rw [hq,A6K,tn,vU (by omega)]
 refine A8b (fun w i=>tD R L x [] w i) x ([]:List UInt8) (fun w hw=>?_) (fun w i hlt hw=>?_) _ 0 _ rfl (Nat.zero_le _) (by simp) (fun j hj=>by omega)
 ·have hq:tD R L x [] w (x.length:Nat) = _:=round (by kernel_rfl) (AG5 R L x [] w (x.length:Nat))
  show tD R L x [] w (x.length:Nat) = _
  rw [hq,aC (Nat.le_refl _)];rfl
 ·have hq:tD R L x [] w i = _:=round (by kernel_rfl) (AG5 R L x [] w i)
  show tD R L x [] w i = _
  rw [hq,bL hlt,nn,tn,zX hlt,zX (n:=w.length) (by omega),zB (i:=i) (by omega)]
  rfl
theorem Bq5 (x:A1p) (hx:cnt kE x ≤ 1048576):Ak1 R x = some (x,()):=by
 have hq:Ak1 R x = _:=call (BJ8 R L x)
 have hc:cnt kE x = (0 + (x.2.1.length + (0))):=rfl
 refine hq.trans ?_
 rfl
theorem Bm1 (x:List (A1p)) (hx:cnt (.sl kE) x ≤ 1048576):AW7 R x = some (x,()):=by
 have hq:AW7 R x = _:=call (A9Q R L x)
 have hc:cnt (.sl kE) x = x.length + (x.map (cnt kE)).sum:=rfl
 rw [hq,A6K,tn,vU (by omega)]
 refine A8b (fun w i=>oF R L x [] w i) x ((0:Int),(([]:List UInt8),())) (fun w hw=>?_) (fun w i hlt hw=>?_) _ 0 _ rfl (Nat.zero_le _) (by simp) (fun j hj=>by omega)
 ·have hq:oF R L x [] w (x.length:Nat) = _:=round (by kernel_rfl) (Ap9 R L x [] w (x.length:Nat))
  show oF R L x [] w (x.length:Nat) = _
  rw [hq,aC (Nat.le_refl _)];rfl
 ·have hq:oF R L x [] w i = _:=round (by kernel_rfl) (Ap9 R L x [] w i)
  show oF R L x [] w i = _
  rw [hq,bL hlt,nn,tn,zX hlt,zX (n:=w.length) (by omega),zB (i:=i) (by omega)]
  have hm:cnt kE (x.getD i ((0:Int),(([]:List UInt8),()))) ≤ cnt (.sl kE) x:=A4X (t:=kE) (x:=x) (d:=((0:Int),(([]:List UInt8),()))) hlt
  rw [Bq5 _ (by omega)]
  rfl
theorem A89 (x:oL) (hx:cnt vE x ≤ 1048576):bA R x = some (x,()):=by
 have hq:bA R x = _:=call (A16 R L x)
 have hc:cnt vE x = (cnt (.sl .str) x.1 + (cnt (.sl kE) x.2.1 + (0))):=rfl
 refine hq.trans ?_
 rw [A67 x.1 (by omega)]
 simp only [Option.bind_some]
 rw [Bm1 x.2.1 (by omega)]
 rfl
theorem BQ9 (x:yD) (hx:cnt tF x ≤ 1048576):kM R x = some (x,()):=by
 have hq:kM R x = _:=call (A5V R L x)
 have hc:cnt tF x = (x.1.length + (cnt wX x.2.1 + (cnt vE x.2.2.1 + (0 + (0 + (0)))))):=rfl
 refine hq.trans ?_
 rw [A5G x.2.1 (by omega)]
 simp only [Option.bind_some]
 rw [A89 x.2.2.1 (by omega)]
 rfl
theorem A5X (x:iG) (hx:cnt wX x ≤ 1048576):gE R x x = some (true,()):=by
 have hq:gE R x x = _:=call (Av1 R L x x)
 have hc:cnt wX x = (0 + (0 + (0 + (0 + (x.2.2.2.2.1.length + (x.2.2.2.2.2.1.length + (x.2.2.2.2.2.2.1.length + (0)))))))):=rfl
 rw [hq]
 simp only [wY,fI,eqB,decide_true,Bool.not_true,cond_false,Option.bind_some]
theorem A7A (x:List (List UInt8)) (hx:cnt (.sl .str) x ≤ 1048576):eH R x x = some (true,()):=by
 have hq:eH R x x = _:=call (A0n R L x x)
 have hc:cnt (.sl .str) x = x.length + (x.map (cnt .str)).sum:=rfl
 rw [hq]
 simp only [wY,decide_true,Bool.not_true,cond_false]
 refine A2k (fun i=>tA R L x x false i) x ?_ (fun i hlt=>?_) _ 0 rfl (Nat.zero_le _)
 ·have hq:tA R L x x false (x.length:Nat) = _:=round (by kernel_rfl) (AJ7 R L x x false (x.length:Nat))
  show tA R L x x false (x.length:Nat) = _
  rw [hq,aC (Nat.le_refl _)];rfl
 ·have hq:tA R L x x false i = _:=round (by kernel_rfl) (AJ7 R L x x false i)
  show tA R L x x false i = _
  rw [hq,bL hlt,nn,tn,zX hlt,zB (i:=i) (by omega)]
  simp only [cond_true,wY,fI,decide_true,Bool.not_true,cond_false]
theorem Br1 (x:A1p) (hx:cnt kE x ≤ 1048576):Ak9 R x x = some (true,()):=by
 have hq:Ak9 R x x = _:=call (BM1 R L x x)
 have hc:cnt kE x = (0 + (x.2.1.length + (0))):=rfl
 rw [hq]
 simp only [wY,fI,eqB,decide_true,Bool.not_true,cond_false,Option.bind_some]
theorem Bm9 (x:List (A1p)) (hx:cnt (.sl kE) x ≤ 1048576):AZ0 R x x = some (true,()):=by
 have hq:AZ0 R x x = _:=call (A9V R L x x)
 have hc:cnt (.sl kE) x = x.length + (x.map (cnt kE)).sum:=rfl
 rw [hq]
 simp only [wY,decide_true,Bool.not_true,cond_false]
 refine A2k (fun i=>oA R L x x false i) x ?_ (fun i hlt=>?_) _ 0 rfl (Nat.zero_le _)
 ·have hq:oA R L x x false (x.length:Nat) = _:=round (by kernel_rfl) (An4 R L x x false (x.length:Nat))
  show oA R L x x false (x.length:Nat) = _
  rw [hq,aC (Nat.le_refl _)];rfl
 ·have hq:oA R L x x false i = _:=round (by kernel_rfl) (An4 R L x x false i)
  show oA R L x x false i = _
  rw [hq,bL hlt,nn,tn,zX hlt,zB (i:=i) (by omega)]
  have hm:cnt kE (x.getD i ((0:Int),(([]:List UInt8),()))) ≤ cnt (.sl kE) x:=A4X (t:=kE) (x:=x) (d:=((0:Int),(([]:List UInt8),()))) hlt
  simp only [cond_true]
  rw [Br1 _ (by omega)]
  simp only [Option.bind_some,Bool.not_true,cond_false]
theorem BC2 (x:oL) (hx:cnt vE x ≤ 1048576):cF R x x = some (true,()):=by
 have hq:cF R x x = _:=call (A2I R L x x)
 have hc:cnt vE x = (cnt (.sl .str) x.1 + (cnt (.sl kE) x.2.1 + (0))):=rfl
 have e1:=A7A x.1 (by omega)
 have e2:=Bm9 x.2.1 (by omega)
 rw [hq]
 simp only [wY,fI,eqB,decide_true,Bool.not_true,cond_false,Option.bind_some,e1,e2]
theorem A6J (x:yD) (hx:cnt tF x ≤ 1048576):kF R x x = some (true,()):=by
 have hq:kF R x x = _:=call (A45 R L x x)
 have hc:cnt tF x = (x.1.length + (cnt wX x.2.1 + (cnt vE x.2.2.1 + (0 + (0 + (0)))))):=rfl
 have e1:=A5X x.2.1 (by omega)
 have e2:=BC2 x.2.2.1 (by omega)
 rw [hq]
 simp only [wY,fI,eqB,decide_true,Bool.not_true,cond_false,Option.bind_some,e1,e2]
theorem Bc3 (x:List (Int)) (hx:cnt (.sl (.int .i64)) x ≤ 1048576):AK3 R x x = some (true,()):=by
 have hq:AK3 R x x = _:=call (A7R R L x x)
 have hc:cnt (.sl (.int .i64)) x = x.length + (x.map (cnt (.int .i64))).sum:=rfl
 rw [hq]
 simp only [wY,decide_true,Bool.not_true,cond_false]
 refine A2k (fun i=>qJ R L x x false i) x ?_ (fun i hlt=>?_) _ 0 rfl (Nat.zero_le _)
 ·have hq:qJ R L x x false (x.length:Nat) = _:=round (by kernel_rfl) (Ai2 R L x x false (x.length:Nat))
  show qJ R L x x false (x.length:Nat) = _
  rw [hq,aC (Nat.le_refl _)];rfl
 ·have hq:qJ R L x x false i = _:=round (by kernel_rfl) (Ai2 R L x x false i)
  show qJ R L x x false i = _
  rw [hq,bL hlt,nn,tn,zX hlt,zB (i:=i) (by omega)]
  simp only [cond_true,wY,fI,decide_true,Bool.not_true,cond_false]
theorem A3W (x:List (List UInt8)) (k:Nat) (hl:nH (.sl .str) x ≤ 4611686018427387904) (h:k + nmk false (.sl .str) x ≤ 4611686018427387904):jS R x k = some ((((mk_ mt false (.sl .str) x k).2:Nat):Int),((mk_ mt false (.sl .str) x k).1,())):=by
 have hq:jS R x k = _:=call (An5 R L x k)
 have hc:nmk false (.sl .str) x = (x.map (nmk true .str)).sum:=rfl
 have hn:nH (.sl .str) x = x.length + (x.map (nH .str)).sum:=rfl
 have e:=AY4 (fun w k i=>vH R L w k 0 i) x.length ([]:List UInt8) (mk_ mt true .str) (nmk true .str) 4611686018427387904 (cC mt true .str) (fun y=>nH .str y ≤ 4611686018427387904) (fun w k hw=>by
  have hq:vH R L w k 0 (x.length:Nat) = _:=round (by kernel_rfl) (aP R L w k 0 (x.length:Nat))
  show vH R L w k 0 (x.length:Nat) = _
  rw [hq,aC (by omega)];rfl) (fun w k i hw hlt hb hQ=>by
  have hlt:i < w.length:=by omega
  have hq:vH R L w k 0 i = _:=round (by kernel_rfl) (aP R L w k 0 i)
  show vH R L w k 0 i = _
  have hb:k + 1 ≤ 4611686018427387904:=hb
  have f1:=AU9 (k) (by omega)
  have f2:=zB (i:=k) (by omega)
  have fi:=zB (i:=i) (by omega)
  rw [hq,bL hlt]
  simp only [nn,tn,zX hlt,cond_true,List.length_set,ss,gs hlt,fi,Option.bind_some,f1,f2]
  rfl) _ 0 x k rfl (Nat.zero_le _) rfl (by rw [List.drop_zero];exact h) (by rw [List.drop_zero];exact fun y hy=>Nat.le_trans (At5 (t:=.str) hy) hl)
 rw [hq]
 exact e
theorem BP3 (x:List (A1p)) (k:Nat) (hl:nH (.sl kE) x ≤ 4611686018427387904) (h:k + nmk false (.sl kE) x ≤ 4611686018427387904):AC5 R x k = some ((((mk_ mt false (.sl kE) x k).2:Nat):Int),((mk_ mt false (.sl kE) x k).1,())):=by
 have hq:AC5 R x k = _:=call (A47 R L x k)
 have hc:nmk false (.sl kE) x = (x.map (nmk true kE)).sum:=rfl
 have hn:nH (.sl kE) x = x.length + (x.map (nH kE)).sum:=rfl
 have e:=AY4 (fun w k i=>rN R L w k 0 i) x.length ((0:Int),(([]:List UInt8),())) (mk_ mt true kE) (nmk true kE) 4611686018427387904 (cC mt true kE) (fun y=>nH kE y ≤ 4611686018427387904) (fun w k hw=>by
  have hq:rN R L w k 0 (x.length:Nat) = _:=round (by kernel_rfl) (AW4 R L w k 0 (x.length:Nat))
  show rN R L w k 0 (x.length:Nat) = _
  rw [hq,aC (by omega)];rfl) (fun w k i hw hlt hb hQ=>by
  have hlt:i < w.length:=by omega
  have hq:rN R L w k 0 i = _:=round (by kernel_rfl) (AW4 R L w k 0 i)
  show rN R L w k 0 i = _
  have hQ:(0 + (0 + (0))) ≤ 4611686018427387904:=hQ
  have hb:k + (1 + (1 + (0))) ≤ 4611686018427387904:=hb
  have f1:=zB (i:=k) (by omega)
  have f2:=AU9 (k + 1) (by omega)
  have f3:=zB (i:=k + 1) (by omega)
  have fi:=zB (i:=i) (by omega)
  rw [hq,bL hlt]
  simp only [nn,tn,zX hlt,cond_true,List.length_set,ss,gs hlt,fi,Option.bind_some,f1,f2,f3]
  rfl) _ 0 x k rfl (Nat.zero_le _) rfl (by rw [List.drop_zero];exact h) (by rw [List.drop_zero];exact fun y hy=>Nat.le_trans (At5 (t:=kE) hy) hl)
 rw [hq]
 exact e
theorem A4S (x:oL) (k:Nat) (hl:nH vE x ≤ 4611686018427387904) (h:k + nmk false vE x ≤ 4611686018427387904):gD R x k = some ((((mk_ mt false vE x k).2:Nat):Int),((mk_ mt false vE x k).1,())):=by
 have hq:gD R x k = _:=call (Au1 R L x k)
 have hn:nH vE x = (nH (.sl .str) x.1 + (nH (.sl kE) x.2.1 + (0))):=rfl
 have hc:nmk false vE x = (nmk false (.sl .str) x.1 + (nmk false (.sl kE) x.2.1 + (0))):=rfl
 rw [hq]
 refine A5a (A3W x.1 (k) (by omega) (by omega)) ?_
 have s1:=cC mt false (.sl .str) x.1 (k)
 refine A5a (BP3 x.2.1 ((mk_ mt false (.sl .str) x.1 (k)).2) (by omega) (by omega)) ?_
 have s2:=cC mt false (.sl kE) x.2.1 ((mk_ mt false (.sl .str) x.1 (k)).2)
 rfl
theorem A7f (x:yD) (k:Nat) (hl:nH tF x ≤ 4611686018427387904) (h:k + nmk false tF x ≤ 4611686018427387904):qH R x k = some ((((mk_ mt false tF x k).2:Nat):Int),((mk_ mt false tF x k).1,())):=by
 have hq:qH R x k = _:=call (A1e R L x k)
 have hn:nH tF x = (0 + (nH wX x.2.1 + (nH vE x.2.2.1 + (0 + (0 + (0)))))):=rfl
 have hc:nmk false tF x = (0 + (nmk false wX x.2.1 + (nmk false vE x.2.2.1 + (0 + (0 + (0)))))):=rfl
 rw [hq]
 refine A5a (A4S x.2.2.1 (k) (by omega) (by omega)) ?_
 have s1:=cC mt false vE x.2.2.1 (k)
 rfl
theorem A9w (x:List (Int)) (k:Nat) (hl:nH (.sl (.int .i64)) x ≤ 4611686018427387904) (h:k + nmk false (.sl (.int .i64)) x ≤ 4611686018427387904):cH R x k = some ((((mk_ mt false (.sl (.int .i64)) x k).2:Nat):Int),((mk_ mt false (.sl (.int .i64)) x k).1,())):=by
 have hq:cH R x k = _:=call (A2F R L x k)
 have hc:nmk false (.sl (.int .i64)) x = (x.map (nmk true (.int .i64))).sum:=rfl
 have hn:nH (.sl (.int .i64)) x = x.length + (x.map (nH (.int .i64))).sum:=rfl
 have e:=AY4 (fun w k i=>sG R L w k 0 i) x.length (0:Int) (mk_ mt true (.int .i64)) (nmk true (.int .i64)) 4611686018427387904 (cC mt true (.int .i64)) (fun y=>nH (.int .i64) y ≤ 4611686018427387904) (fun w k hw=>by
  have hq:sG R L w k 0 (x.length:Nat) = _:=round (by kernel_rfl) (AP9 R L w k 0 (x.length:Nat))
  show sG R L w k 0 (x.length:Nat) = _
  rw [hq,aC (by omega)];rfl) (fun w k i hw hlt hb hQ=>by
  have hlt:i < w.length:=by omega
  have hq:sG R L w k 0 i = _:=round (by kernel_rfl) (AP9 R L w k 0 i)
  show sG R L w k 0 i = _
  have hb:k + 1 ≤ 4611686018427387904:=hb
  have f1:=zB (i:=k) (by omega)
  have fi:=zB (i:=i) (by omega)
  rw [hq,bL hlt]
  simp only [nn,tn,zX hlt,cond_true,List.length_set,ss,gs hlt,fi,Option.bind_some,f1]
  rfl) _ 0 x k rfl (Nat.zero_le _) rfl (by rw [List.drop_zero];exact h) (by rw [List.drop_zero];exact fun y hy=>Nat.le_trans (At5 (t:=(.int .i64)) hy) hl)
 rw [hq]
 exact e
theorem A2K (x:List (List UInt8)) (k k':Nat) (hl:nH (.sl .str) x ≤ 4611686018427387904) (h:k' ≤ 4611686018427387904) (hh:hd_ mt false (.sl .str) x k = some k'):jW R x k = some ((k':Int),()):=by
 have hq:jW R x k = _:=call (Ar6 R L x k)
 have hn:nH (.sl .str) x = x.length + (x.map (nH .str)).sum:=rfl
 have e:=AX6 (fun k i=>vD R L x k 0 i) x ([]:List UInt8) (hd_ mt true .str) (nmk true .str) 4611686018427387904 (fM mt true .str) (fun k=>by
  have hq:vD R L x k 0 (x.length:Nat) = _:=round (by kernel_rfl) (bM R L x k 0 (x.length:Nat))
  show vD R L x k 0 (x.length:Nat) = _
  rw [hq,aC (Nat.le_refl _)];rfl) (fun k i k' hlt hh hb=>by
  have hq:vD R L x k 0 i = _:=round (by kernel_rfl) (bM R L x k 0 i)
  show vD R L x k 0 i = _
  have hm:nH .str (x.getD i ([]:List UInt8)) ≤ nH (.sl .str) x:=Ak3 (t:=.str) (x:=x) (d:=([]:List UInt8)) hlt
  have fi:=zB (i:=i) (by omega)
  obtain ⟨g1,hh⟩:=A2W hh
  have g1:eqS (x.getD i ([]:List UInt8)) (mt (k)) = true:=g1
  injection hh with hh
  have m1:=AU9 (k) (by omega)
  have w1:=zB (i:=k) (by omega)
  rw [hq,bL hlt]
  simp only [nn,tn,zX hlt,cond_true,fi,Option.bind_some,BX6,cond_false,Bool.not_true,m1,g1,w1]
  rw [← hh]) _ 0 k k' rfl (Nat.zero_le _) h (by rw [List.drop_zero];exact hh)
 rw [hq]
 exact e
theorem BK3 (x:List (A1p)) (k k':Nat) (hl:nH (.sl kE) x ≤ 4611686018427387904) (h:k' ≤ 4611686018427387904) (hh:hd_ mt false (.sl kE) x k = some k'):AB6 R x k = some ((k':Int),()):=by
 have hq:AB6 R x k = _:=call (A5S R L x k)
 have hn:nH (.sl kE) x = x.length + (x.map (nH kE)).sum:=rfl
 have e:=AX6 (fun k i=>rM R L x k 0 i) x ((0:Int),(([]:List UInt8),())) (hd_ mt true kE) (nmk true kE) 4611686018427387904 (fM mt true kE) (fun k=>by
  have hq:rM R L x k 0 (x.length:Nat) = _:=round (by kernel_rfl) (AW1 R L x k 0 (x.length:Nat))
  show rM R L x k 0 (x.length:Nat) = _
  rw [hq,aC (Nat.le_refl _)];rfl) (fun k i k' hlt hh hb=>by
  have hq:rM R L x k 0 i = _:=round (by kernel_rfl) (AW1 R L x k 0 i)
  show rM R L x k 0 i = _
  have hm:nH kE (x.getD i ((0:Int),(([]:List UInt8),()))) ≤ nH (.sl kE) x:=Ak3 (t:=kE) (x:=x) (d:=((0:Int),(([]:List UInt8),()))) hlt
  have fi:=zB (i:=i) (by omega)
  have hm:(0 + (0 + (0))) ≤ _:=hm
  obtain ⟨g1,hh⟩:=Ar3 hh
  have g1:eqI (x.getD i ((0:Int),(([]:List UInt8),()))).1 ((k:Nat):Int) = true:=g1
  obtain ⟨g2,hh⟩:=Ar3 hh
  have g2:eqS (x.getD i ((0:Int),(([]:List UInt8),()))).2.1 (mt (k + 1)) = true:=g2
  have hh:some (k + 1 + 1) = some k':=hh
  injection hh with hh
  have w1:=zB (i:=k) (by omega)
  have m2:=AU9 (k + 1) (by omega)
  have w2:=zB (i:=k + 1) (by omega)
  rw [hq,bL hlt]
  simp only [nn,tn,zX hlt,cond_true,fi,Option.bind_some,BX6,cond_false,Bool.not_true,g1,w1,m2,g2,w2]
  rw [← hh]) _ 0 k k' rfl (Nat.zero_le _) h (by rw [List.drop_zero];exact hh)
 rw [hq]
 exact e
theorem A4P (x:oL) (k k':Nat) (hl:nH vE x ≤ 4611686018427387904) (h:k' ≤ 4611686018427387904) (hh:hd_ mt false vE x k = some k'):hP R x k = some ((k':Int),()):=by
 have hq:hP R x k = _:=call (Ax2 R L x k)
 rw [hq]
 have hn:nH vE x = (nH (.sl .str) x.1 + (nH (.sl kE) x.2.1 + (0))):=rfl
 obtain ⟨k1,g1,hh⟩:=Option.bind_eq_some_iff.1 hh
 have s1:=fM mt false _ _ _ _ g1
 obtain ⟨k2,g2,hh⟩:=Option.bind_eq_some_iff.1 hh
 have s2:=fM mt false _ _ _ _ g2
 cases hh
 rw [A2K x.1 _ _ (by omega) (by omega) g1]
 simp only [Option.bind_some,BX6,cond_false]
 rw [BK3 x.2.1 _ _ (by omega) (by omega) g2]
 simp only [Option.bind_some,BX6,cond_false]
 all_goals rfl
theorem A8Q (x:yD) (k k':Nat) (hl:nH tF x ≤ 4611686018427387904) (h:k' ≤ 4611686018427387904) (hh:hd_ mt false tF x k = some k'):oJ R x k = some ((k':Int),()):=by
 have hq:oJ R x k = _:=call (A1i R L x k)
 rw [hq]
 have hn:nH tF x = (0 + (nH wX x.2.1 + (nH vE x.2.2.1 + (0 + (0 + (0)))))):=rfl
 obtain ⟨k1,g1,hh⟩:=Option.bind_eq_some_iff.1 hh
 have s1:=fM mt false _ _ _ _ g1
 obtain ⟨k2,g2,hh⟩:=Option.bind_eq_some_iff.1 hh
 have s2:=fM mt false _ _ _ _ g2
 obtain ⟨k3,g3,hh⟩:=Option.bind_eq_some_iff.1 hh
 have s3:=fM mt false _ _ _ _ g3
 obtain ⟨k4,g4,hh⟩:=Option.bind_eq_some_iff.1 hh
 have s4:=fM mt false _ _ _ _ g4
 obtain ⟨k5,g5,hh⟩:=Option.bind_eq_some_iff.1 hh
 have s5:=fM mt false _ _ _ _ g5
 cases hh
 cases g1
 cases g2
 rw [A4P x.2.2.1 _ _ (by omega) (by omega) g3]
 simp only [Option.bind_some,BX6,cond_false]
 cases g4
 cases g5
 all_goals rfl
abbrev zS:Ty:=(.pair (.int .i64) (.pair (.sl (.int .i64)) .unit))
abbrev rE:Type:=(Int × (List (Int) × Unit))
theorem A98 (x:rE) (hx:cnt zS x ≤ 1048576):cI R x x = some (true,()):=by
 have hq:cI R x x = _:=call (A2s R L x x)
 have hc:cnt zS x = (0 + (cnt (.sl (.int .i64)) x.2.1 + (0))):=rfl
 have e1:=Bc3 x.2.1 (by omega)
 rw [hq]
 simp only [wY,fI,eqB,decide_true,Bool.not_true,cond_false,Option.bind_some,e1]
theorem A7I (x:List (rE)) (hx:cnt (.sl zS) x ≤ 1048576):lI R x x = some (true,()):=by
 have hq:lI R x x = _:=call (A1E R L x x)
 have hc:cnt (.sl zS) x = x.length + (x.map (cnt zS)).sum:=rfl
 rw [hq]
 simp only [wY,decide_true,Bool.not_true,cond_false]
 refine A2k (fun i=>tC R L x x false i) x ?_ (fun i hlt=>?_) _ 0 rfl (Nat.zero_le _)
 ·have hq:tC R L x x false (x.length:Nat) = _:=round (by kernel_rfl) (AG9 R L x x false (x.length:Nat))
  show tC R L x x false (x.length:Nat) = _
  rw [hq,aC (Nat.le_refl _)];rfl
 ·have hq:tC R L x x false i = _:=round (by kernel_rfl) (AG9 R L x x false i)
  show tC R L x x false i = _
  rw [hq,bL hlt,nn,tn,zX hlt,zB (i:=i) (by omega)]
  have hm:cnt zS (x.getD i ((0:Int),(([]:List (Int)),()))) ≤ cnt (.sl zS) x:=A4X (t:=zS) (x:=x) (d:=((0:Int),(([]:List (Int)),()))) hlt
  simp only [cond_true]
  rw [A98 _ (by omega)]
  simp only [Option.bind_some,Bool.not_true,cond_false]
theorem A3P (x:List (rE)) (k:Nat) (hl:nH (.sl zS) x ≤ 4611686018427387904) (h:k + nmk false (.sl zS) x ≤ 4611686018427387904):mM R x k = some ((((mk_ mt false (.sl zS) x k).2:Nat):Int),((mk_ mt false (.sl zS) x k).1,())):=by
 have hq:mM R x k = _:=call (An3 R L x k)
 have hc:nmk false (.sl zS) x = (x.map (nmk true zS)).sum:=rfl
 have hn:nH (.sl zS) x = x.length + (x.map (nH zS)).sum:=rfl
 have e:=AY4 (fun w k i=>vB R L w k 0 i) x.length ((0:Int),(([]:List (Int)),())) (mk_ mt true zS) (nmk true zS) 4611686018427387904 (cC mt true zS) (fun y=>nH zS y ≤ 4611686018427387904) (fun w k hw=>by
  have hq:vB R L w k 0 (x.length:Nat) = _:=round (by kernel_rfl) (aJ R L w k 0 (x.length:Nat))
  show vB R L w k 0 (x.length:Nat) = _
  rw [hq,aC (by omega)];rfl) (fun w k i hw hlt hb hQ=>by
  have hlt:i < w.length:=by omega
  have hq:vB R L w k 0 i = _:=round (by kernel_rfl) (aJ R L w k 0 i)
  show vB R L w k 0 i = _
  have hQ:(0 + (nH (.sl (.int .i64)) (w.getD i ((0:Int),(([]:List (Int)),()))).2.1 + (0))) ≤ 4611686018427387904:=hQ
  have hb:k + (1 + (nmk true (.sl (.int .i64)) (w.getD i ((0:Int),(([]:List (Int)),()))).2.1 + (0))) ≤ 4611686018427387904:=hb
  have f1:=zB (i:=k) (by omega)
  have f2:=A9w (w.getD i ((0:Int),(([]:List (Int)),()))).2.1 (k + 1) (by first | exact hQ | omega) (by show _ + nmk true (.sl (.int .i64)) _ ≤ _;first | exact hb | omega)
  have f3:=cC mt true (.sl (.int .i64)) (w.getD i ((0:Int),(([]:List (Int)),()))).2.1 (k + 1)
  have fi:=zB (i:=i) (by omega)
  rw [hq,bL hlt]
  simp only [nn,tn,zX hlt,cond_true,List.length_set,ss,gs hlt,fi,Option.bind_some,f1,f2]
  rfl) _ 0 x k rfl (Nat.zero_le _) rfl (by rw [List.drop_zero];exact h) (by rw [List.drop_zero];exact fun y hy=>Nat.le_trans (At5 (t:=zS) hy) hl)
 rw [hq]
 exact e
theorem BG6 (x:List (Int)) (k k':Nat) (hl:nH (.sl (.int .i64)) x ≤ 4611686018427387904) (h:k' ≤ 4611686018427387904) (hh:hd_ mt false (.sl (.int .i64)) x k = some k'):cT R x k = some ((k':Int),()):=by
 have hq:cT R x k = _:=call (A2m R L x k)
 have hn:nH (.sl (.int .i64)) x = x.length + (x.map (nH (.int .i64))).sum:=rfl
 have e:=AX6 (fun k i=>sH R L x k 0 i) x (0:Int) (hd_ mt true (.int .i64)) (nmk true (.int .i64)) 4611686018427387904 (fM mt true (.int .i64)) (fun k=>by
  have hq:sH R L x k 0 (x.length:Nat) = _:=round (by kernel_rfl) (AO1 R L x k 0 (x.length:Nat))
  show sH R L x k 0 (x.length:Nat) = _
  rw [hq,aC (Nat.le_refl _)];rfl) (fun k i k' hlt hh hb=>by
  have hq:sH R L x k 0 i = _:=round (by kernel_rfl) (AO1 R L x k 0 i)
  show sH R L x k 0 i = _
  have hm:nH (.int .i64) (x.getD i (0:Int)) ≤ nH (.sl (.int .i64)) x:=Ak3 (t:=(.int .i64)) (x:=x) (d:=(0:Int)) hlt
  have fi:=zB (i:=i) (by omega)
  obtain ⟨g1,hh⟩:=A2W hh
  have g1:eqI (x.getD i (0:Int)) ((k:Nat):Int) = true:=g1
  injection hh with hh
  have w1:=zB (i:=k) (by omega)
  rw [hq,bL hlt]
  simp only [nn,tn,zX hlt,cond_true,fi,Option.bind_some,BX6,cond_false,Bool.not_true,g1,w1]
  rw [← hh]) _ 0 k k' rfl (Nat.zero_le _) h (by rw [List.drop_zero];exact hh)
 rw [hq]
 exact e
theorem A2C (x:List (rE)) (k k':Nat) (hl:nH (.sl zS) x ≤ 4611686018427387904) (h:k' ≤ 4611686018427387904) (hh:hd_ mt false (.sl zS) x k = some k'):pL R x k = some ((k':Int),()):=by
 have hq:pL R x k = _:=call (Aq5 R L x k)
 have hn:nH (.sl zS) x = x.length + (x.map (nH zS)).sum:=rfl
 have e:=AX6 (fun k i=>vF R L x k 0 i) x ((0:Int),(([]:List (Int)),())) (hd_ mt true zS) (nmk true zS) 4611686018427387904 (fM mt true zS) (fun k=>by
  have hq:vF R L x k 0 (x.length:Nat) = _:=round (by kernel_rfl) (bR R L x k 0 (x.length:Nat))
  show vF R L x k 0 (x.length:Nat) = _
  rw [hq,aC (Nat.le_refl _)];rfl) (fun k i k' hlt hh hb=>by
  have hq:vF R L x k 0 i = _:=round (by kernel_rfl) (bR R L x k 0 i)
  show vF R L x k 0 i = _
  have hm:nH zS (x.getD i ((0:Int),(([]:List (Int)),()))) ≤ nH (.sl zS) x:=Ak3 (t:=zS) (x:=x) (d:=((0:Int),(([]:List (Int)),()))) hlt
  have fi:=zB (i:=i) (by omega)
  have hm:(0 + (nH (.sl (.int .i64)) (x.getD i ((0:Int),(([]:List (Int)),()))).2.1 + (0))) ≤ _:=hm
  obtain ⟨g1,hh⟩:=Ar3 hh
  have g1:eqI (x.getD i ((0:Int),(([]:List (Int)),()))).1 ((k:Nat):Int) = true:=g1
  obtain ⟨k2,g2,hh⟩:=Option.bind_eq_some_iff.1 hh
  have s2:=fM mt true _ _ _ _ g2
  have hh:some (k2) = some k':=hh
  injection hh with hh
  have w1:=zB (i:=k) (by omega)
  have q2:=BG6 (x.getD i ((0:Int),(([]:List (Int)),()))).2.1 (k + 1) k2 (by omega) (by omega) g2
  rw [hq,bL hlt]
  simp only [nn,tn,zX hlt,cond_true,fi,Option.bind_some,BX6,cond_false,Bool.not_true,g1,w1,q2]
  rw [← hh]) _ 0 k k' rfl (Nat.zero_le _) h (by rw [List.drop_zero];exact hh)
 rw [hq]
 exact e
theorem AY7 (R:Run EE) (s0:Int) (a0:FnVal):uC EE R (.mk 268 (.fn a0 .nil)) [⟨(.int .i64),s0⟩] = (hJ R s0 a0).map (·.1):=by kernel_rfl
theorem AF4 (R:Run EE) (s0:(Int × (Int × (Int × Unit)))) (a0:FnVal):uC EE R (.mk 334 (.fn a0 .nil)) [⟨(.pair (.int .i64) (.pair (.int .i64) (.pair (.int .i64) .unit))),s0⟩] = (nZ R s0 a0).map (·.1):=by kernel_rfl
abbrev A7J:FuncId:=205
theorem A40 (R:Run EE) (s0:Int)  : uC EE R (.mk 205 .nil) [⟨(.int .i64),s0⟩] = (kR R s0 ).map (·.1):=by kernel_rfl
theorem A21 (R:Run EE) (s0:(Int × (Int × (Int × Unit)))) (a0:Int):uC EE R (.mk 292 (.int .i64 a0 .nil)) [⟨(.pair (.int .i64) (.pair (.int .i64) (.pair (.int .i64) .unit))),s0⟩] = (AT0 R s0 a0).map (·.1):=by kernel_rfl
theorem AF1 (R:Run EE) (s0:Int)  : uC EE R (.mk 290 .nil) [⟨(.int .i64),s0⟩] = (mL R s0 ).map (·.1):=by kernel_rfl
theorem AI4 (R:Run EE) (s0:List UInt8) (a0:FnVal):uC EE R (.mk 254 (.fn a0 .nil)) [⟨.str,s0⟩] = (lM R s0 a0).map (·.1):=by kernel_rfl
theorem AS4 (R:Run EE) (s0:A1p) (a0:FnVal):uC EE R (.mk 331 (.fn a0 .nil)) [⟨kE,s0⟩] = (jE R s0 a0).map (·.1):=by kernel_rfl
theorem Aw8 (R:Run EE) (s0:List UInt8)  : uC EE R (.mk 285 .nil) [⟨.str,s0⟩] = (jV R s0 ).map (·.1):=by kernel_rfl
theorem Am3 (R:Run EE) (s0:A1p)  : uC EE R (.mk 287 .nil) [⟨kE,s0⟩] = (gH R s0 ).map (·.1):=by kernel_rfl
theorem AB8 (R:Run EE) (s0:rE) (a0:FnVal):uC EE R (.mk 299 (.fn a0 .nil)) [⟨zS,s0⟩] = (nD R s0 a0).map (·.1):=by kernel_rfl
theorem A1z (R:Run EE) (s0:Int)  : uC EE R (.mk 235 .nil) [⟨(.int .i64),s0⟩] = (dE R s0 ).map (·.1):=by kernel_rfl
theorem A07 (R:Run EE) (s0:rE)  : uC EE R (.mk 239 .nil) [⟨zS,s0⟩] = (cS R s0 ).map (·.1):=by kernel_rfl
theorem iH (x:List (Int)) (w:FnVal) (p:Int → Bool) (hl:x.length ≤ 4611686018427387904) (hp:∀ s ∈ x,uC EE R w [⟨(.int .i64),s⟩] = some (p s)):vQ R x w = some (BI2 p x 0,()):=by
 have hq:vQ R x w = _:=call (fE R L x w)
 have hq0:tG R L x w 0 x.length 0 = _:=round (by kernel_rfl) (iJ R L x w 0 x.length 0)
 have hq1:zN R L x w 0 0 x.length 0 = _:=round (by kernel_rfl) (tS R L x w 0 0 x.length 0)
 rw [hq,hq0.trans hq1.symm]
 refine Ad1 (fun a i=>zN R L x w 0 a x.length i) x (0:Int) p (fun a=>?_) (fun a i hlt=>?_) _ 0 0 rfl (Nat.zero_le _)
 ·have hq:zN R L x w 0 a x.length (x.length:Nat) = _:=round (by kernel_rfl) (tS R L x w 0 a x.length (x.length:Nat))
  show zN R L x w 0 a x.length (x.length:Nat) = _
  rw [hq,aC (Nat.le_refl _)];rfl
 ·have hq:zN R L x w 0 a x.length i = _:=round (by kernel_rfl) (tS R L x w 0 a x.length i)
  show zN R L x w 0 a x.length i = _
  rw [hq,bL hlt,nn,tn,zX hlt,zB (by omega)]
  simp only [cond_true]
  rw [hp _ (sL (d:=(0:Int)) hlt)]
  rfl
theorem mD (x:List ((Int × (Int × (Int × Unit))))) (w:FnVal) (p:(Int × (Int × (Int × Unit))) → Bool) (hl:x.length ≤ 4611686018427387904) (hp:∀ s ∈ x,uC EE R w [⟨(.pair (.int .i64) (.pair (.int .i64) (.pair (.int .i64) .unit))),s⟩] = some (p s)):xM R x w = some (BI2 p x 0,()):=by
 have hq:xM R x w = _:=call (lO R L x w)
 rw [hq]
 refine Ad1 (fun (_:Int) i=>zH R L x w x.length i) x ((0:Int),((0:Int),((0:Int),()))) p (fun a=>?_) (fun a i hlt=>?_) _ 0 0 rfl (Nat.zero_le _)
 ·have hq:zH R L x w x.length (x.length:Nat) = _:=round (by kernel_rfl) (sI R L x w x.length (x.length:Nat))
  show zH R L x w x.length (x.length:Nat) = _
  rw [hq,aC (Nat.le_refl _)];rfl
 ·have hq:zH R L x w x.length i = _:=round (by kernel_rfl) (sI R L x w x.length i)
  show zH R L x w x.length i = _
  rw [hq,bL hlt,nn,tn,zX hlt,zB (by omega)]
  simp only [cond_true]
  rw [hp _ (sL (d:=((0:Int),((0:Int),((0:Int),())))) hlt)]
  rfl
theorem lN (x:List (List UInt8)) (w:FnVal) (p:List UInt8 → Bool) (hl:x.length ≤ 4611686018427387904) (hp:∀ s ∈ x,uC EE R w [⟨.str,s⟩] = some (p s)):xX R x w = some (BI2 p x 0,()):=by
 have hq:xX R x w = _:=call (kI R L x w)
 have hq0:wT R L x w 0 x.length 0 = _:=round (by kernel_rfl) (lJ R L x w 0 x.length 0)
 have hq1:zG R L x w 0 0 x.length 0 = _:=round (by kernel_rfl) (vA R L x w 0 0 x.length 0)
 rw [hq,hq0.trans hq1.symm]
 refine Ad1 (fun a i=>zG R L x w 0 a x.length i) x ([]:List UInt8) p (fun a=>?_) (fun a i hlt=>?_) _ 0 0 rfl (Nat.zero_le _)
 ·have hq:zG R L x w 0 a x.length (x.length:Nat) = _:=round (by kernel_rfl) (vA R L x w 0 a x.length (x.length:Nat))
  show zG R L x w 0 a x.length (x.length:Nat) = _
  rw [hq,aC (Nat.le_refl _)];rfl
 ·have hq:zG R L x w 0 a x.length i = _:=round (by kernel_rfl) (vA R L x w 0 a x.length i)
  show zG R L x w 0 a x.length i = _
  rw [hq,bL hlt,nn,tn,zX hlt,zB (by omega)]
  simp only [cond_true]
  rw [hp _ (sL (d:=([]:List UInt8)) hlt)]
  rfl
theorem jK (x:List (A1p)) (w:FnVal) (p:A1p → Bool) (hl:x.length ≤ 4611686018427387904) (hp:∀ s ∈ x,uC EE R w [⟨kE,s⟩] = some (p s)):wV R x w = some (BI2 p x 0,()):=by
 have hq:wV R x w = _:=call (iL R L x w)
 have hq0:uG R L x w 0 x.length 0 = _:=round (by kernel_rfl) (jF R L x w 0 x.length 0)
 have hq1:zK R L x w 0 0 x.length 0 = _:=round (by kernel_rfl) (uL R L x w 0 0 x.length 0)
 rw [hq,hq0.trans hq1.symm]
 refine Ad1 (fun a i=>zK R L x w 0 a x.length i) x ((0:Int),(([]:List UInt8),())) p (fun a=>?_) (fun a i hlt=>?_) _ 0 0 rfl (Nat.zero_le _)
 ·have hq:zK R L x w 0 a x.length (x.length:Nat) = _:=round (by kernel_rfl) (uL R L x w 0 a x.length (x.length:Nat))
  show zK R L x w 0 a x.length (x.length:Nat) = _
  rw [hq,aC (Nat.le_refl _)];rfl
 ·have hq:zK R L x w 0 a x.length i = _:=round (by kernel_rfl) (uL R L x w 0 a x.length i)
  show zK R L x w 0 a x.length i = _
  rw [hq,bL hlt,nn,tn,zX hlt,zB (by omega)]
  simp only [cond_true]
  rw [hp _ (sL (d:=((0:Int),(([]:List UInt8),()))) hlt)]
  rfl
theorem nG (x:List (rE)) (w:FnVal) (p:rE → Bool) (hl:x.length ≤ 4611686018427387904) (hp:∀ s ∈ x,uC EE R w [⟨zS,s⟩] = some (p s)):xF R x w = some (BI2 p x 0,()):=by
 have hq:xF R x w = _:=call (mB R L x w)
 have hq0:wC R L x w 0 x.length 0 = _:=round (by kernel_rfl) (nE R L x w 0 x.length 0)
 have hq1:zE R L x w 0 0 x.length 0 = _:=round (by kernel_rfl) (wH R L x w 0 0 x.length 0)
 rw [hq,hq0.trans hq1.symm]
 refine Ad1 (fun a i=>zE R L x w 0 a x.length i) x ((0:Int),(([]:List (Int)),())) p (fun a=>?_) (fun a i hlt=>?_) _ 0 0 rfl (Nat.zero_le _)
 ·have hq:zE R L x w 0 a x.length (x.length:Nat) = _:=round (by kernel_rfl) (wH R L x w 0 a x.length (x.length:Nat))
  show zE R L x w 0 a x.length (x.length:Nat) = _
  rw [hq,aC (Nat.le_refl _)];rfl
 ·have hq:zE R L x w 0 a x.length i = _:=round (by kernel_rfl) (wH R L x w 0 a x.length i)
  show zE R L x w 0 a x.length i = _
  rw [hq,bL hlt,nn,tn,zX hlt,zB (by omega)]
  simp only [cond_true]
  rw [hp _ (sL (d:=((0:Int),(([]:List (Int)),()))) hlt)]
  rfl
theorem kY (x:List (Int)) (w:FnVal) (p:Int → Bool) (hl:x.length ≤ 4611686018427387904) (hp:∀ s ∈ x,uC EE R w [⟨(.int .i64),s⟩] = some (p s)):wL R x w = some (x.any p,()):=by
 have hq:wL R x w = _:=call (iD R L x w)
 rw [hq,iH x w p hl hp]
 simp only [Option.bind_some]
 rw [AL6]
theorem oT (x:List ((Int × (Int × (Int × Unit))))) (w:FnVal) (p:(Int × (Int × (Int × Unit))) → Bool) (hl:x.length ≤ 4611686018427387904) (hp:∀ s ∈ x,uC EE R w [⟨(.pair (.int .i64) (.pair (.int .i64) (.pair (.int .i64) .unit))),s⟩] = some (p s)):yZ R x w = some (x.any p,()):=by
 have hq:yZ R x w = _:=call (nP R L x w)
 rw [hq,mD x w p hl hp]
 simp only [Option.bind_some]
 rw [AL6]
theorem nO (x:List (List UInt8)) (w:FnVal) (p:List UInt8 → Bool) (hl:x.length ≤ 4611686018427387904) (hp:∀ s ∈ x,uC EE R w [⟨.str,s⟩] = some (p s)):xK R x w = some (x.any p,()):=by
 have hq:xK R x w = _:=call (lC R L x w)
 rw [hq,lN x w p hl hp]
 simp only [Option.bind_some]
 rw [AL6]
theorem lY (x:List (A1p)) (w:FnVal) (p:A1p → Bool) (hl:x.length ≤ 4611686018427387904) (hp:∀ s ∈ x,uC EE R w [⟨kE,s⟩] = some (p s)):wD R x w = some (x.any p,()):=by
 have hq:wD R x w = _:=call (kX R L x w)
 rw [hq,jK x w p hl hp]
 simp only [Option.bind_some]
 rw [AL6]
theorem pW (x:List (rE)) (w:FnVal) (p:rE → Bool) (hl:x.length ≤ 4611686018427387904) (hp:∀ s ∈ x,uC EE R w [⟨zS,s⟩] = some (p s)):yU R x w = some (x.any p,()):=by
 have hq:yU R x w = _:=call (oU R L x w)
 rw [hq,nG x w p hl hp]
 simp only [Option.bind_some]
 rw [AL6]
theorem iX (x:List (Int)) (v:FnVal) (p:Int → Bool) (hl:x.length ≤ 4611686018427387904) (hp:∀ s ∈ x,uC EE R v [⟨(.int .i64),s⟩] = some (p s)):uS R x v = some (x.all p,()):=by
 have hq:uS R x v = _:=call (Ap3 R L x v)
 rw [hq,kY x (.mk 268 (.fn v .nil)) (fun s=>!p s) hl (fun s hs=>by
  have h1:hJ R s v = _:=call (Aa6 R L s v)
  rw [AY7,h1,hp s hs];rfl)]
 simp only [Option.bind_some]
 rw [Aq7]
theorem AJ6 (x:List ((Int × (Int × (Int × Unit))))) (v:FnVal) (p:(Int × (Int × (Int × Unit))) → Bool) (hl:x.length ≤ 4611686018427387904) (hp:∀ s ∈ x,uC EE R v [⟨(.pair (.int .i64) (.pair (.int .i64) (.pair (.int .i64) .unit))),s⟩] = some (p s)):oN R x v = some (x.all p,()):=by
 have hq:oN R x v = _:=call (AS1 R L x v)
 rw [hq,oT x (.mk 334 (.fn v .nil)) (fun s=>!p s) hl (fun s hs=>by
  have h1:nZ R s v = _:=call (AH2 R L s v)
  rw [AF4,h1,hp s hs];rfl)]
 simp only [Option.bind_some]
 rw [Aq7]
theorem AN4 (x:List (List UInt8)) (v:FnVal) (p:List UInt8 → Bool) (hl:x.length ≤ 4611686018427387904) (hp:∀ s ∈ x,uC EE R v [⟨.str,s⟩] = some (p s)):nN R x v = some (x.all p,()):=by
 have hq:nN R x v = _:=call (AY5 R L x v)
 rw [hq,nO x (.mk 254 (.fn v .nil)) (fun s=>!p s) hl (fun s hs=>by
  have h1:lM R s v = _:=call (AN7 R L s v)
  rw [AI4,h1,hp s hs];rfl)]
 simp only [Option.bind_some]
 rw [Aq7]
theorem AY9 (x:List (A1p)) (v:FnVal) (p:A1p → Bool) (hl:x.length ≤ 4611686018427387904) (hp:∀ s ∈ x,uC EE R v [⟨kE,s⟩] = some (p s)):kD R x v = some (x.all p,()):=by
 have hq:kD R x v = _:=call (Aj5 R L x v)
 rw [hq,lY x (.mk 331 (.fn v .nil)) (fun s=>!p s) hl (fun s hs=>by
  have h1:jE R s v = _:=call (AW0 R L s v)
  rw [AS4,h1,hp s hs];rfl)]
 simp only [Option.bind_some]
 rw [Aq7]
theorem AF3 (x:List (rE)) (v:FnVal) (p:rE → Bool) (hl:x.length ≤ 4611686018427387904) (hp:∀ s ∈ x,uC EE R v [⟨zS,s⟩] = some (p s)):qZ R x v = some (x.all p,()):=by
 have hq:qZ R x v = _:=call (AN6 R L x v)
 rw [hq,pW x (.mk 299 (.fn v .nil)) (fun s=>!p s) hl (fun s hs=>by
  have h1:nD R s v = _:=call (AE7 R L s v)
  rw [AB8,h1,hp s hs];rfl)]
 simp only [Option.bind_some]
 rw [Aq7]
abbrev A7s:Type:=(List ((Int × (Int × (Int × Unit)))) × Unit)
end Go.Rf.S

end
section
namespace Go.Rf.S
set_option maxRecDepth 100000
def inB (n a b:Int):Bool:=decide (a ≤ n) && decide (n ≤ b)
theorem rP {n a b:Int} (h:inB n a b = true):a ≤ n ∧ n ≤ b:=by
 unfold inB at h
 simpa using h
theorem pG (n a b:Int):tL R n a b = some (inB n a b,()):=by
 have hq:tL R n a b = _:=call (BG1 R L n a b)
 rw [hq]
 unfold inB
 cases decide (a ≤ n) <;> rfl
theorem qE (n a b:Int):sQ R n a b = some (inB n a b,()):=by
 have hq:sQ R n a b = _:=call (A7E R L n a b)
 rw [hq]
 unfold inB
 cases decide (a ≤ n) <;> rfl
theorem A87 (n:Int):AW8 R n = some (inB n 0 39,()):=by
 have hq:AW8 R n = _:=call (A9U R L n)
 rw [hq,pG];rfl
theorem A3v (n:Int):cZ R n = some (inB n 0 39,()):=by
 have hq:cZ R n = _:=call (A3S R L n)
 rw [hq,qE];rfl
theorem BG3 (n:Int):An6 R n = some (inB n 1 9999,()):=by
 have hq:An6 R n = _:=call (A95 R L n)
 rw [hq,qE];rfl
theorem As9 (n:Int):dE R n = some (inB n 0 999999,()):=by
 have hq:dE R n = _:=call (A5N R L n)
 rw [hq,qE];rfl
def A3h (t:List UInt8):Bool:=decide (t.length = 32)
theorem A02 (t:List UInt8):eqI (t.length:Int) 32 = A3h t:=by
 unfold A3h
 rw [wY]
 by_cases h:t.length = 32
 ·rw [decide_eq_true h,decide_eq_true (by omega)]
 ·rw [decide_eq_false h,decide_eq_false (by omega)]
theorem AJ8 (t:List UInt8):kS R t = some (A3h t,()):=by
 have hq:kS R t = _:=call (A2M R L t)
 rw [hq,A02]
theorem A1m (a b:Int):A0W a b = min a b:=by
 unfold A0W
 by_cases h:b < a
 ·rw [decide_eq_true h];simp only [cond_true];omega
 ·rw [decide_eq_false h];simp only [cond_false];omega
def BX3 (x:A1p):Bool:=inB x.1 0 39 && decide (x.2.1.length ≤ 700)
def BP8 (s:List UInt8):Bool:=decide (s.length ≤ 700)
def Aw3 (d:oL):Bool:=decide (d.1.length = 40) && (decide (d.2.1.length ≤ 60) && (d.1.all BP8 && d.2.1.all BX3))
theorem gtN (n m:Nat):decide ((m:Int) < (n:Int)) = !decide (n ≤ m):=by
 by_cases h:n ≤ m
 ·rw [decide_eq_false (by omega),decide_eq_true h];rfl
 ·rw [decide_eq_true (by omega),decide_eq_false h];rfl
theorem leN (n m:Nat):decide ((n:Int) ≤ (m:Int)) = decide (n ≤ m):=decide_eq_decide.2 (by omega)
theorem Bn5:∀ (n:Nat) (v0 v1:oL) (v2:Bool) (v3:Int) (i:Nat),v1.2.1.length - i = n → i ≤ v1.2.1.length → v1.2.1.length ≤ 60 → pC R L v0 v1 v2 v3 i = some ((v1.2.1.drop i).all BX3,())
 | 0,v0,v1,v2,v3,i,hn,hi,hl=>by
  have hq:pC R L v0 v1 v2 v3 i = _:=round (by kernel_rfl) (AP1 R L v0 v1 v2 v3 i)
  rw [hq,aC (by omega),List.drop_eq_nil_of_le (by omega)];rfl
 | n + 1,v0,v1,v2,v3,i,hn,hi,hl=>by
  have hlt:i < v1.2.1.length:=by omega
  have hq:pC R L v0 v1 v2 v3 i = _:=round (by kernel_rfl) (AP1 R L v0 v1 v2 v3 i)
  rw [hq,bL hlt,nn,tn,zX hlt]
  simp only [cond_true]
  rw [A87]
  simp only [Option.bind_some]
  rw [show (700:Int) = ((700:Nat):Int) from rfl,gtN,zB (by omega),Bn5 n v0 v1 v2 v3 (i + 1) (by omega) (by omega) hl,xZ (d:=(0,([],()))) hlt,List.all_cons]
  generalize v1.2.1.getD i (0,([],())) = p
  unfold BX3
  cases inB p.1 0 39 <;> cases decide (p.2.1.length ≤ 700) <;> rfl
theorem Bj2:∀ (n:Nat) (v0 v1:oL) (v2:Bool) (i:Nat),v1.1.length - i = n → i ≤ v1.1.length → v1.1.length ≤ 40 → v1.2.1.length ≤ 60 → pQ R L v0 v1 v2 i = some ((v1.1.drop i).all BP8 && v1.2.1.all BX3,())
 | 0,v0,v1,v2,i,hn,hi,hl,hl2=>by
  have hq:pQ R L v0 v1 v2 i = _:=round (by kernel_rfl) (AP3 R L v0 v1 v2 i)
  rw [hq,aC (by omega),List.drop_eq_nil_of_le (by omega)]
  exact Bn5 _ v0 v1 v2 i 0 rfl (by omega) hl2
 | n + 1,v0,v1,v2,i,hn,hi,hl,hl2=>by
  have hlt:i < v1.1.length:=by omega
  have hq:pQ R L v0 v1 v2 i = _:=round (by kernel_rfl) (AP3 R L v0 v1 v2 i)
  rw [hq,bL hlt,nn,tn,zX hlt]
  simp only [cond_true]
  rw [show (700:Int) = ((700:Nat):Int) from rfl,gtN,zB (by omega),Bj2 n v0 v1 v2 (i + 1) (by omega) (by omega) hl hl2,xZ (d:=[]) hlt,List.all_cons]
  generalize v1.1.getD i [] = p
  unfold BP8
  cases decide (p.length ≤ 700) <;> rfl
theorem A2S (d:oL):cJ R d = some (Aw3 d,()):=by
 have hq:cJ R d = _:=call (A2J R L d)
 rw [hq,wY]
 unfold Aw3
 by_cases h:d.1.length = 40
 ·rw [show decide ((d.1.length:Int) = 40) = true from decide_eq_true (by omega),decide_eq_true h]
  by_cases h2:d.2.1.length ≤ 60
  ·rw [show decide ((60:Int) < (d.2.1.length:Int)) = false from decide_eq_false (by omega),decide_eq_true h2]
   exact Bj2 _ d d false 0 rfl (by omega) (by omega) h2
  ·rw [show decide ((60:Int) < (d.2.1.length:Int)) = true from decide_eq_true (by omega),decide_eq_false h2];rfl
 ·rw [show decide ((d.1.length:Int) = 40) = false from decide_eq_false (by omega),decide_eq_false h];rfl
theorem AV1 (s:List UInt8):jV R s = some (BP8 s,()):=by
 have hq:jV R s = _:=call (A00 R L s)
 rw [hq,show (700:Int) = ((700:Nat):Int) from rfl,leN];rfl
theorem Au8 (s:A1p):gH R s = some (BX3 s,()):=by
 have hq:gH R s = _:=call (Au5 R L s)
 rw [hq,A3v]
 simp only [Option.bind_some]
 rw [AV1]
 unfold BX3 BP8
 cases inB s.1 0 39 <;> rfl
theorem A3R (d:oL):cA R d = some (Aw3 d,()):=by
 have hq:cA R d = _:=call (A3f R L d)
 rw [hq,wY]
 unfold Aw3
 by_cases h:d.1.length = 40
 ·rw [show decide ((d.1.length:Int) = 40) = true from decide_eq_true (by omega),decide_eq_true h]
  simp only [cond_true]
  rw [AN4 d.1 _ BP8 (by omega) (fun s _=>by rw [Aw8,AV1];rfl)]
  simp only [Option.bind_some]
  by_cases h2:d.2.1.length ≤ 60
  ·rw [show decide ((d.2.1.length:Int) ≤ (60:Int)) = true from decide_eq_true (by omega),decide_eq_true h2]
   simp only [cond_true]
   rw [AY9 d.2.1 _ BX3 (by omega) (fun s _=>by rw [Am3,Au8];rfl)]
   cases d.1.all BP8 <;> simp
  ·rw [show decide ((d.2.1.length:Int) ≤ (60:Int)) = false from decide_eq_false (by omega),decide_eq_false h2]
   cases d.1.all BP8 <;> simp
 ·rw [show decide ((d.1.length:Int) = 40) = false from decide_eq_false (by omega),decide_eq_false h];rfl
def A15 (x:iG):Bool:=inB x.1 0 1000000 && (inB x.2.1 0 1 && (inB x.2.2.2.1 0 1000000 && (inB x.2.2.1 x.1 (min (x.1 + 4) 1000000) && (A3h x.2.2.2.2.1 && (A3h x.2.2.2.2.2.1 && (A3h x.2.2.2.2.2.2.1 && (decide (x.1 < x.2.2.1) || decide (x.2.2.2.2.1 = x.2.2.2.2.2.1))))))))
theorem Au7 (x:iG):gB R x = some (A15 x,()):=by
 have hq:gB R x = _:=call (Au2 R L x)
 rw [hq,pG]
 unfold A15
 simp only [Option.bind_some]
 cases h0:inB x.1 0 1000000 with
 | false=>rfl
 | true=>
  have hb:=rP h0
  simp only [cond_true,Bool.true_and]
  rw [pG]
  simp only [Option.bind_some]
  cases inB x.2.1 0 1 with
  | false=>rfl
  | true=>
   simp only [cond_true,Bool.true_and]
   rw [pG]
   simp only [Option.bind_some]
   cases inB x.2.2.2.1 0 1000000 with
   | false=>rfl
   | true=>
    simp only [cond_true,Bool.true_and]
    rw [pG,A1m,zI (by omega) (by omega)]
    simp only [Option.bind_some,A02,fI]
    cases inB x.2.2.1 x.1 (min (x.1 + 4) 1000000) <;> cases A3h x.2.2.2.2.1 <;> cases A3h x.2.2.2.2.2.1 <;> cases A3h x.2.2.2.2.2.2.1 <;> cases decide (x.1 < x.2.2.1) <;> rfl
theorem Aw7 (x:iG):hU R x = some (A15 x,()):=by
 have hq:hU R x = _:=call (Av8 R L x)
 have hq2:lK R x = _:=call (AN5 R L x)
 rw [hq,qE]
 unfold A15
 simp only [Option.bind_some]
 cases h0:inB x.1 0 1000000 with
 | false=>rfl
 | true=>
  have hb:=rP h0
  simp only [cond_true,Bool.true_and]
  rw [qE]
  simp only [Option.bind_some]
  cases inB x.2.1 0 1 with
  | false=>rfl
  | true=>
   simp only [cond_true,Bool.true_and]
   rw [qE,A1m,zI (by omega) (by omega)]
   simp only [Option.bind_some]
   cases h2:inB x.2.2.1 x.1 (min (x.1 + 4) 1000000) with
   | false=>cases inB x.2.2.2.1 0 1000000 <;> rfl
   | true=>
    have hc:=rP h2
    simp only [cond_true,Bool.true_and]
    rw [qE,AJ8,AJ8,AJ8,hq2,zI (by omega) (by omega)]
    simp only [Option.bind_some,fI]
    rw [show decide ((0:Int) < x.2.2.1 - x.1) = decide (x.1 < x.2.2.1) from decide_eq_decide.2 (by omega)]
    cases inB x.2.2.2.1 0 1000000 <;> cases A3h x.2.2.2.2.1 <;> cases A3h x.2.2.2.2.2.1 <;> cases A3h x.2.2.2.2.2.2.1 <;> cases decide (x.1 < x.2.2.1) <;> rfl
def A5F (d:oL):Bool:=decide (d.2.1.length = 0)
theorem A6m (d:oL):eqI (d.2.1.length:Int) 0 = A5F d:=by
 unfold A5F
 rw [wY]
 exact decide_eq_decide.2 (by omega)
def iT (x:yD):Bool:=A3h x.1 && (A15 x.2.1 && (Aw3 x.2.2.1 && (A5F x.2.2.1 && !(x.2.2.2.1 && x.2.2.2.2.1))))
theorem A4W (x:yD):aS R x = some (iT x,()):=by
 have hq:aS R x = _:=call (A5R R L x)
 rw [hq,Au7,A2S]
 simp only [Option.bind_some,A02,A6m]
 unfold iT
 cases A3h x.1 <;> cases A15 x.2.1 <;> cases Aw3 x.2.2.1 <;> cases A5F x.2.2.1 <;> cases x.2.2.2.1 <;> rfl
theorem A7B (d:oL):AL9 R d = some (Aw3 d && A5F d,()):=by
 have hq:AL9 R d = _:=call (A7a R L d)
 rw [hq,A3R,A6m]
 simp only [Option.bind_some]
 cases Aw3 d <;> rfl
theorem A4r (x:yD):AB2 R x = some (iT x,()):=by
 have hq:AB2 R x = _:=call (A4p R L x)
 rw [hq,Aw7,A7B]
 simp only [Option.bind_some,A02]
 unfold iT
 cases A3h x.1 <;> cases A15 x.2.1 <;> cases Aw3 x.2.2.1 <;> cases A5F x.2.2.1 <;> cases x.2.2.2.1 <;> rfl
theorem aG {i:Nat} (h:i + 1 < 9223372036854775807):IntKind.wrap .i64 (((i + 1:Nat):Int) - 1) = (i:Int):=by
 rw [zI (by omega) (by omega)];omega
def Ao4 (r:rE):Bool:=inB r.1 0 19 && (decide (r.2.1.length ≤ 32) && ((decide (r.1 = 0) || decide (r.2.1.length = 0)) && r.2.1.all fun n=>inB n 0 999999))
def cP (l:List rE):Bool:=decide (l.length ≤ 2) && l.all Ao4
theorem A06 {α:Type} (F:Int → Option (Bool × Unit)) (v:List α) (d:α) (p:α → Bool) (z:Bool)
  (stop:F (v.length:Nat) = some (z,()))
  (step:∀ (i:Nat),i < v.length → F i = cond (p (v.getD i d)) (F ((i + 1:Nat):Int)) (some (false,()))):
  ∀ (n i:Nat),v.length - i = n → i ≤ v.length → F i = some ((v.drop i).all p && z,())
 | 0,i,hn,hi=>by
  have:i = v.length:=by omega
  subst this
  rw [stop,List.drop_eq_nil_of_le (Nat.le_refl _)];rfl
 | n + 1,i,hn,hi=>by
  rw [step i (by omega),xZ (d:=d) (by omega),List.all_cons,A06 F v d p z stop step n (i + 1) (by omega) (by omega)]
  cases p (v.getD i d) <;> rfl
theorem Bw1 (n:Nat):eqI (n:Int) 0 = decide (n = 0):=by
 rw [wY];exact decide_eq_decide.2 (by omega)
end Go.Rf.S

end
section
namespace Go.Rf.S
set_option maxRecDepth 100000
def NN (l:List Int):Prop:=∀ x ∈ l,0 ≤ x
theorem NN.cl {l:List Int} (h:NN l):∃ m:List Nat,l = cl m:=⟨l.map Int.toNat,by
 unfold Go.Rf.cl
 rw [List.map_map]
 have:∀ x ∈ l,((fun x:Nat=>(x:Int)) ∘ Int.toNat) x = id x:=fun x hx=>Int.toNat_of_nonneg (h x hx)
 rw [List.map_congr_left this,List.map_id]⟩
theorem NN.rep (n:Nat):NN (List.replicate n (0:Int)):=fun x hx=>by rw [(List.mem_replicate.1 hx).2];decide
def fil (l:List Int) (n:Nat):List Int:=l ++ List.replicate (n - l.length) 0
abbrev DB:Type:=Int × (Int × (Int × Unit))
abbrev DR:Type:=Int × (List Int × Unit)
abbrev DE:Type:=List Int × ((List Int × (List DB × (List (List DB) × Unit))) × Unit)
def b3 (b:DB):List Int:=[b.1,b.2.1,b.2.2.1]
def Bu4 (l:List DB):List Int:=(l.length:Int) :: l.flatMap b3
def Bw6 (r:DR):List Int:=[r.1,(r.2.1.length:Int)] ++ r.2.1
def By4 (l:List DB):List UInt8:=(fil (Bu4 l) 7).flatMap itx
def stI (e:DE) (rs:List DR):List Int:=(((e.2.1.1 ++ Bu4 e.2.1.2.1) ++ e.1) ++ [(rs.length:Int)]) ++ rs.flatMap Bw6
def Bw9 (e:DE) (rs:List DR):List UInt8:=(fil (stI e rs) 140).flatMap itx
end Go.Rf.S

end
section
namespace Go.Rf.S
set_option maxRecDepth 100000
noncomputable def Bq7 (key:List UInt8) (side epoch i:Nat) (l:List DB):List UInt8:=Be5 key 2 (16 * side + 1 + i) epoch (By4 l)
noncomputable def Bt2 (key:List UInt8) (side epoch:Nat) (e:DE) (rs:List DR):List (List UInt8):=[Be5 key 1 (16 * side) epoch (Bw9 e rs)] ++ e.2.1.2.2.1.mapIdx (Bq7 key side epoch)
end Go.Rf.S

end
section
namespace Go.Rf.S
set_option maxRecDepth 100000
def A14 (n:Int):Bool:=inB n 0 7
theorem BK6 (n:Int):kR R n = some (A14 n,()):=by
 rw [show kR R n = _ from call (A0X R L n),qE];rfl
theorem A71 (l:List Int) (hl:l.length ≤ 4096):uS R l (.mk A7J .nil) = some (l.all A14,()):=
 iX l _ A14 (by omega) fun s _=>by rw [A40,BK6];rfl
theorem BK8 (l:List Int) (hl:l.length ≤ 4096):fZ R l = some (l.all A14,()):=by
 have h:∀ (n i:Nat),l.length - i = n → i ≤ l.length → qF R L l (i:Int) = some ((l.drop i).all A14,()):=by
  intro n
  induction n with
  | zero=>
   intro i hn hi
   have:i = l.length:=by omega
   subst this
   rw [show qF R L l (l.length:Nat) = _ from round (by kernel_rfl) (AJ3 R L l (l.length:Nat)),List.drop_length]
   simp (disch:=omega) only [st,dF,List.all_nil]
  | succ n ih=>
   intro i hn hi
   rw [show qF R L l (i:Nat) = _ from round (by kernel_rfl) (AJ3 R L l (i:Nat)),zB (by omega),ih (i + 1) (by omega) (by omega),xZ (d:=0) (show i < l.length by omega),List.all_cons]
   simp (disch:=omega) only [st,dT,pG]
   unfold A14
   cases inB (l.getD i 0) 0 7 <;> rfl
 rw [show fZ R l = _ from call (A05 R L l)]
 exact h l.length 0 rfl (Nat.zero_le _)
def Bx3 (l:List Int):DE:=(List.replicate 11 0,((l,([],(List.replicate 15 [],()))),()))
end Go.Rf.S

end
section
namespace Go.Rf.S
set_option maxRecDepth 100000
abbrev DI:Type:=Int × (List UInt8 × Unit)
abbrev DD:Type:=List (List UInt8) × (List DI × Unit)
theorem BY1 (l:List (List UInt8)) (h:l.length ≤ 1099511627776):wW R l = some (l,()):=by
 rw [show wW R l = _ from call (iP R L l)]
 cases l with
 | nil=>exact AM9 _
 | cons a l=>show cond (yT (0 + (a :: l).length)) (some (a :: l,())) none = _;rw [vU (by omega)];rfl
theorem Bb0 (l:List DI) (h:l.length ≤ 1099511627776):uM R l = some (l,()):=by
 rw [show uM R l = _ from call (eY R L l)]
 cases l with
 | nil=>exact AM9 _
 | cons a l=>show cond (yT (0 + (a :: l).length)) (some (a :: l,())) none = _;rw [vU (by omega)];rfl
theorem BE4 (d:DD) (h1:d.1.length ≤ 1048576) (h2:d.2.1.length ≤ 1048576):gK R d = some (d,()) ∧ AJ9 R d = some (d,()):=by
 constructor
 ·rw [show gK R d = _ from call (Aw4 R L d),BY1 _ (by omega),Bb0 _ (by omega)];rfl
 ·rw [show AJ9 R d = _ from call (A7S R L d)]
  simp (disch:=omega) only [st,List.length_nil];rfl
def By1 (n:Nat) (u:List DI):Prop:=∀ x ∈ u,0 ≤ x.1 ∧ x.1.toNat < n
end Go.Rf.S

end
section
namespace Go.Rf.S
set_option maxRecDepth 100000
def By6 (t:A7s):List Int:=(t.1.length:Int) :: t.1.flatMap b3
def By0 (l:List A7s) (ds:List Int):List Int:=(ds ++ [(l.length:Int)]) ++ l.flatMap By6
def Bz0 (l:List A7s) (ds:List Int):List UInt8:=(fil (By0 l ds) 68).flatMap itx
def Bl1 (a b:List UInt8):List UInt8:=dig (([2] ++ a) ++ b)
structure DW (d:DD):Prop where
 l1:d.1.length ≤ 1048576
 l2:d.2.1.length ≤ 1048576
 at_:By1 d.1.length d.2.1
 sh:Sh d.1
 un:∀ x ∈ d.2.1,x.2.1.length ≤ 1048576
end Go.Rf.S

end
section
namespace Go.Rf.S
set_option maxRecDepth 100000
def wd:Ty → Nat
 | .sl t=>wd t
 | .pair a b=>wd a + wd b
 | _=>1
theorem AO3:∀ (c:Bool) (t:Ty) (x:t.D),nmk c t x ≤ wd t * (cnt t x + 1)
 | c,.sl t,x=>by
  have h:∀ l:List t.D,(l.map (nmk true t)).sum ≤ wd t * (l.length + (l.map (cnt t)).sum):=fun l=>by
   induction l with
   | nil=>simp
   | cons a l ih=>
    have:=AO3 true t a
    simp only [List.map_cons,List.sum_cons,List.length_cons]
    have e:wd t * (l.length + 1 + (cnt t a + (l.map (cnt t)).sum)) = wd t * (cnt t a + 1) + wd t * (l.length + (l.map (cnt t)).sum):=by rw [← Nat.mul_add];congr 1;omega
    omega
  have e:nmk c (.sl t) x = (List.map (nmk true t) x).sum:=by cases c <;> rfl
  have e2:cnt (.sl t) x = List.length x + (List.map (cnt t) x).sum:=rfl
  rw [e,e2]
  have:=h x
  show _ ≤ wd t * _
  rw [Nat.mul_add];omega
 | c,.pair a b,x=>by
  have h1:=AO3 c a x.1
  have h2:=AO3 c b x.2
  have e:nmk c (.pair a b) x = nmk c a x.1 + nmk c b x.2:=by cases c <;> rfl
  have e2:cnt (.pair a b) x = cnt a x.1 + cnt b x.2:=rfl
  rw [e,e2]
  show _ ≤ (wd a + wd b) * _
  have e3:(wd a + wd b) * (cnt a x.1 + cnt b x.2 + 1) = wd a * (cnt a x.1 + 1) + wd a * cnt b x.2 + (wd b * (cnt b x.2 + 1) + wd b * cnt a x.1):=by
   simp only [Nat.add_mul,Nat.mul_add,Nat.mul_one];omega
  omega
 | c,.int _,x=>by cases c <;> simp [nmk,wd,cnt]
 | c,.bool,x=>by cases c <;> simp [nmk,wd,cnt]
 | c,.str,x=>by cases c <;> simp [nmk,wd,cnt]
 | c,.fn,x=>by cases c <;> simp [nmk,wd,cnt]
 | c,.unit,x=>by cases c <;> simp [nmk,wd,cnt]
 | c,.ptr _,x=>by cases c <;> simp [nmk,wd,cnt]
 | c,.arr _ _,x=>by cases c <;> simp [nmk,wd,cnt]
abbrev noS:yD:=([],((0,(0,(0,(0,([],([],([],()))))))),(([],([],())),(false,(false,())))))
def Bu0:List UInt8:=[98,101,103,105,110]
noncomputable def Bu7 (key:List UInt8) (l:List Int):List (List UInt8):=Bt2 key 0 0 (Bx3 l) []
noncomputable def newS (key:List UInt8) (l:List Int):yD:=(key,((0,(0,(0,(0,(dig Bu0,(dig Bu0,(A5W (Bu7 key l),()))))))),((Bu7 key l ++ List.replicate 24 [],([],())),(true,(false,())))))
end Go.Rf.S

end
section
namespace Go.Rf.S
set_option maxRecDepth 100000
theorem Bq2 (l:List Int):cnt (.sl (.int .i64)) l = l.length:=by
 show l.length + (l.map fun _:Int=>0).sum = _
 have:∀ l:List Int,(l.map fun _:Int=>0).sum = 0:=fun l=>by induction l with
  | nil=>rfl
  | cons a l ih=>rw [List.map_cons,List.sum_cons,ih]
 rw [this];rfl
end Go.Rf.S

end
section
namespace Go.Rf.S
set_option maxRecDepth 100000
structure SO (x:yD):Prop where
 k:x.1.length = 32
 c0:0 ≤ x.2.1.1
 c1:x.2.1.1 ≤ 1000000
 sd:x.2.1.2.1 = 0 ∨ x.2.1.2.1 = 1
 n0:x.2.1.1 ≤ x.2.1.2.2.1
 n1:x.2.1.2.2.1 ≤ x.2.1.1 + 4
 n2:x.2.1.2.2.1 ≤ 1000000
 b0:0 ≤ x.2.1.2.2.2.1
 b1:x.2.1.2.2.2.1 ≤ 1000000
 t1:x.2.1.2.2.2.2.1.length = 32
 t2:x.2.1.2.2.2.2.2.1.length = 32
 t3:x.2.1.2.2.2.2.2.2.1.length = 32
 dl:x.2.2.1.1.length = 40
 ds:∀ s ∈ x.2.2.1.1,s.length ≤ 700
 u:x.2.2.1.2.1 = []
theorem A6t {s:List UInt8} (h:A3h s = true):s.length = 32:=by simpa [A3h] using h
theorem SO.of {x:yD} (h:iT x = true):SO x:=by
 unfold iT A15 Aw3 A5F at h
 simp only [Bool.and_eq_true,decide_eq_true_eq] at h
 obtain ⟨h1,⟨r1,r2,r3,r4,r5,r6,r7,r8⟩,⟨d1,d2,d3,d4⟩,h4,h5⟩:=h
 have a1:=rP r1
 have a2:=rP r2
 have a3:=rP r3
 have a4:=rP r4
 exact ⟨A6t h1,a1.1,a1.2,by omega,a4.1,by omega,by omega,a3.1,a3.2,A6t r5,A6t r6,A6t r7,d1,fun s hs=>by simpa [BP8] using List.all_eq_true.1 d3 s hs,List.length_eq_zero_iff.1 h4⟩
theorem SO.dw {x:yD} (h:SO x):DW x.2.2.1:=
 ⟨by rw [h.dl];decide,by rw [h.u];decide,by rw [h.u];exact (fun _ h=>nomatch h),fun s hs=>Nat.le_trans (h.ds s hs) (by decide),by rw [h.u];exact (fun _ h=>nomatch h)⟩
theorem Bi1 {x:yD} (h:SO x):mV R x = some (x,()):=by
 rw [show mV R x = _ from call (A1O R L x),(BE4 x.2.2.1 h.dw.l1 h.dw.l2).1];rfl
theorem Bs3 {x:yD} (h:DW x.2.2.1):AM8 R x = some (x,()):=by
 rw [show AM8 R x = _ from call (A6z R L x),(BE4 x.2.2.1 h.l1 h.l2).2];rfl
def upc (x:yD):Int:=cond x.2.2.2.2.1 18 (cond (!x.2.2.2.1) 16 0)
theorem By9 (x:yD):lZ R x = some (upc x,()):=by
 rw [show lZ R x = _ from call (Aj1 R L x)]
 unfold upc
 cases x.2.2.2.2.1 <;> cases x.2.2.2.1 <;> rfl
theorem Bx8 (x:yD):AK0 R x = some (upc x,()):=by
 rw [show AK0 R x = _ from call (A78 R L x)]
 unfold upc
 cases x.2.2.2.2.1 <;> cases x.2.2.2.1 <;> rfl
noncomputable def Bw5 (key:List UInt8) (C B:Nat) (l:List A7s) (ds:List Int):List UInt8:=ub (lit B 4) ++ Be5 key 3 (32 + (C + 1) % 8) (C + 1 + 1048576 * B) (Bz0 l ds)
noncomputable def nT (x:yD) (l:List A7s) (ds:List Int):List UInt8:=Bw5 x.1 x.2.1.2.2.1.toNat x.2.1.2.2.2.1.toNat l ds
def nA (x:yD):Nat:=32 + (x.2.1.2.2.1.toNat + 1) % 8
noncomputable def nS (x:yD) (l:List A7s) (ds:List Int):List (List UInt8):=x.2.2.1.1.set (nA x) (nT x l ds)
end Go.Rf.S

end
section
namespace Go.Rf.S
set_option maxRecDepth 100000
theorem Bu5 (x:yD) (k:Nat) (hx:cnt tF x ≤ 1048576) (hk:k ≤ 100000000):∃ (k':Nat) (x':yD),k' ≤ k + 18000000 ∧ qH R x k = some ((k':Int),(x',())) ∧ oJ R x' k = some ((k':Int),()):=by
 have n1:=AO3 false tF x
 have w:wd tF = 17:=rfl
 rw [w] at n1
 have l1:=AW2 tF x
 have s1:=cC mt false tF x k
 exact ⟨_,_,by omega,A7f x k (by omega) (by omega),A8Q (mk_ mt false tF x k).1 k _ (Nat.le_trans (Nat.le_of_eq (Ac9 mt false tF x k)) (by omega)) (by omega) (A8O mt false tF x k)⟩
end Go.Rf.S

end
section
namespace Go.Rf.S
set_option maxRecDepth 100000
def BG9 (t:List UInt8):Nat → Nat → List Int
 | 0,_=>[]
 | c + 1,k=>((wLE t (4 * k):Nat):Int) :: BG9 t c (k + 1)
theorem A2N (t:List UInt8):∀ c k,(BG9 t c k).length = c
 | 0,_=>rfl
 | c + 1,k=>by show (_ :: _:List Int).length = _;rw [List.length_cons,A2N t c]
def wds (t:List UInt8):List Int:=BG9 t (t.length / 4) 0
theorem BD0 (t:List UInt8):(wds t).length = t.length / 4:=A2N t _ _
theorem BU8 (t:List UInt8) (n:Nat) (ht:t.length = 4 * n) (hn:n ≤ 262144):∀ (c k:Nat) (acc:List Int),k + c = n → acc.length = k → pJ R L t acc ((4 * k:Nat):Int) = some (acc ++ BG9 t c k,())
 | 0,k,acc,hk,ha=>by
  rw [show pJ R L t acc ((4 * k:Nat):Int) = _ from round (by kernel_rfl) (AP7 R L t acc ((4 * k:Nat):Int)),aC (by omega)]
  show some (acc,()) = some (acc ++ [],());rw [List.append_nil]
 | c + 1,k,acc,hk,ha=>by
  have hb:=BU3 t (4 * k)
  have e:=Ag1 (t.drop (4 * k)) (by rw [List.length_drop];omega)
  rw [A6Y] at e
  rw [show pJ R L t acc ((4 * k:Nat):Int) = _ from round (by kernel_rfl) (AP7 R L t acc ((4 * k:Nat):Int)),bL (by omega),List.take_length,show IntKind.wrap .i64 (((4 * k:Nat):Int) + 4) = ((4 * (k + 1):Nat):Int) by rw [zI (by omega) (by omega)];omega]
  simp (disch:=omega) only [st,e]
  rw [BU8 t n ht hn c (k + 1) _ (by omega) (by rw [List.length_append,ha];rfl),List.append_assoc]
  rfl
theorem A9H (t:List UInt8) (ht:t.length ≤ 1048576):∀ (c k:Nat) (acc:List Int),k + c = t.length / 4 → acc.length = k → qG R L t acc ((4 * k:Nat):Int) = some (acc ++ BG9 t c k,(decide (t.length % 4 = 0),()))
 | 0,k,acc,hk,ha=>by
  rw [show qG R L t acc ((4 * k:Nat):Int) = _ from round (by kernel_rfl) (AH0 R L t acc ((4 * k:Nat):Int)),show IntKind.wrap .i64 (((4 * k:Nat):Int) + 4) = ((4 * (k + 1):Nat):Int) by rw [zI (by omega) (by omega)];omega,
   dF (show ¬ ((4 * (k + 1):Nat):Int) ≤ (t.length:Int) by omega),show Int.tmod (t.length:Int) 4 = ((t.length % 4:Nat):Int) from rfl,Bw1]
  show some (acc,_) = some (acc ++ [],_);rw [List.append_nil]
 | c + 1,k,acc,hk,ha=>by
  have e:=A0d t (4 * k) (by omega) (by omega)
  rw [show qG R L t acc ((4 * k:Nat):Int) = _ from round (by kernel_rfl) (AH0 R L t acc ((4 * k:Nat):Int)),show IntKind.wrap .i64 (((4 * k:Nat):Int) + 4) = ((4 * (k + 1):Nat):Int) by rw [zI (by omega) (by omega)];omega,
   dT (show ((4 * (k + 1):Nat):Int) ≤ (t.length:Int) by omega)]
  simp (disch:=omega) only [st,e]
  rw [A9H t ht c (k + 1) _ (by omega) (by rw [List.length_append,ha];rfl),List.append_assoc]
  rfl
abbrev PR:Type:=List Int × (Int × (Bool × Unit))
abbrev SR:Type:=List Int × (Int × Unit)
def RP (x:PR) (o:LO):Prop:=x.1.length ≤ 1048576 ∧ ((o = none ∧ x.2.2.1 = true) ∨ (x.2.2.1 = false ∧ ∃ k:Nat,x.2.1 = (k:Int) ∧ k ≤ x.1.length ∧ o = some (x.1.drop k)))
def RS (x:SR) (s:SO1):Prop:=x.1.length ≤ 1048576 ∧ ((s.2 = false ∧ ∃ k:Nat,x.2.1 = (k:Int) ∧ k ≤ x.1.length ∧ s.1 = x.1.drop k) ∨ (s.2 = true ∧ s.1 = [] ∧ x.2.1 = (x.1.length:Int) + 1))
def po (t:List UInt8) (n:Nat):LO:=if t.length = 4 * n then some (wds t) else none
def so (t:List UInt8) (n:Nat):SO1:=if t.length = 4 * n then (wds t,false) else ([],true)
theorem pso (t:List UInt8) (n:Nat):Sy (po t n) (so t n) ∨ (po t n = none ∧ (so t n).2 = true):=by
 unfold po so
 by_cases h:t.length = 4 * n
 ·rw [if_pos h,if_pos h];exact .inl ⟨rfl,rfl⟩
 ·rw [if_neg h,if_neg h];exact .inr ⟨rfl,rfl⟩
theorem A6c (t:List UInt8) (n:Nat) (hn:n ≤ 1000):∃ x,RP x (po t n) ∧ mI R t (n:Int) = some (x,()):=by
 rw [show mI R t (n:Int) = _ from call (A2O R L t (n:Int)),show IntKind.wrap .i64 (4 * (n:Int)) = ((4 * n:Nat):Int) by rw [zI (by omega) (by omega)];omega]
 unfold po
 by_cases h:t.length = 4 * n
 ·have e:cM R t = some (wds t,()):=by
   have:=BU8 t n h (by omega) n 0 [] (by omega) rfl
   rw [show cM R t = _ from call (A12 R L t)]
   unfold wds
   rw [show t.length / 4 = n by omega]
   exact this
  rw [if_pos h]
  simp (disch:=omega) only [st,e,Bool.not_true]
  refine ⟨_,⟨?_,.inr ⟨rfl,0,rfl,Nat.zero_le _,rfl⟩⟩,rfl⟩
  show (wds t).length ≤ _
  rw [BD0];omega
 ·rw [if_neg h]
  simp (disch:=omega) only [st,Bool.not_false]
  exact ⟨_,⟨Nat.zero_le _,.inl ⟨rfl,rfl⟩⟩,rfl⟩
theorem A6B (t:List UInt8) (n:Nat) (hn:n ≤ 1000) (ht:t.length ≤ 1048576):∃ x,RS x (so t n) ∧ kG R t (n:Int) = some (x,()):=by
 have e:eA R t = some (wds t,(decide (t.length % 4 = 0),())):=by
  have:=A9H t ht (t.length / 4) 0 [] (by omega) rfl
  rw [show eA R t = _ from call (A1c R L t)]
  exact this
 have hw:=BD0 t
 rw [show kG R t (n:Int) = _ from call (A4z R L t (n:Int)),e]
 unfold so
 by_cases h:t.length = 4 * n
 ·rw [if_pos h,dT (show t.length % 4 = 0 by omega)]
  simp (disch:=omega) only [st,Bool.not_true]
  exact ⟨_,⟨by show (wds t).length ≤ _;omega,.inl ⟨rfl,0,rfl,Nat.zero_le _,rfl⟩⟩,rfl⟩
 ·rw [if_neg h]
  by_cases h4:t.length % 4 = 0
  ·rw [dT h4]
   simp (disch:=omega) only [st,Bool.not_true,Bool.not_false]
   exact ⟨_,⟨Nat.zero_le _,.inr ⟨rfl,rfl,rfl⟩⟩,rfl⟩
  ·rw [dF h4]
   simp (disch:=omega) only [st,Bool.not_false]
   exact ⟨_,⟨Nat.zero_le _,.inr ⟨rfl,rfl,rfl⟩⟩,rfl⟩
theorem BH7 (b:Int) (hb:0 ≤ b) (o:LO):0 ≤ (pN b o).1 ∧ (pN b o).1 ≤ b:=by
 unfold pN
 split
 ·split
  ·rename_i h;exact rP h
  ·exact ⟨Int.le_refl _,hb⟩
 ·exact ⟨Int.le_refl _,hb⟩
theorem BV5 (b:Int) (hb:0 ≤ b) (s:SO1):0 ≤ (sC b s).1 ∧ (sC b s).1 ≤ b:=by
 unfold sC
 split
 ·rename_i h;exact rP h
 ·exact ⟨Int.le_refl _,hb⟩
theorem Af7 {x:PR} {o:LO} (h:RP x o) (b:Int):∃ y,RP y (pN b o).2 ∧ yP R x 0 b = some ((pN b o).1,(y,())):=by
 obtain ⟨l,a,bad,u⟩:=x
 obtain ⟨hl,h⟩:=h
 have hl:l.length ≤ 1048576:=hl
 rw [show yP R (l,(a,(bad,u))) 0 b = _ from call (AU0 R L _ 0 b)]
 rcases h with ⟨rfl,h⟩ | ⟨h,k,hk,hkl,rfl⟩
 ·have h:bad = true:=h
  subst h
  exact ⟨_,⟨hl,.inl ⟨rfl,rfl⟩⟩,rfl⟩
 ·have h:bad = false:=h
  subst h
  have hk:a = (k:Int):=hk
  subst hk
  have hkl:k ≤ l.length:=hkl
  show ∃ y,RP y (pN b (some (l.drop k))).2 ∧ _ = some ((pN b (some (l.drop k))).1,(y,()))
  by_cases he:k = l.length
  ·subst he
   rw [List.drop_length]
   simp (disch:=omega) only [st]
   refine ⟨_,?_,rfl⟩
   exact ⟨hl,.inl ⟨rfl,rfl⟩⟩
  ·have hlt:k < l.length:=by omega
   rw [xZ (d:=0) hlt,show IntKind.wrap .i64 (IntKind.wrap .i64 ((k:Int) + 1) - 1) = (k:Int) by rw [zB (by omega),aG (by omega)],zB (by omega),qE]
   simp (disch:=omega) only [st]
   cases hx:inB (l.getD k 0) 0 b with
   | true=>
    have e:pN b (some (l.getD k 0 :: l.drop (k + 1))) = (l.getD k 0,some (l.drop (k + 1))):=by
     show (if inR (l.getD k 0) 0 b = true then _ else _) = _
     rw [if_pos (show inR (l.getD k 0) 0 b = true from hx)]
    rw [e]
    refine ⟨_,?_,rfl⟩
    exact ⟨hl,.inr ⟨rfl,k + 1,rfl,hlt,rfl⟩⟩
   | false=>
    have e:pN b (some (l.getD k 0 :: l.drop (k + 1))) = (0,none):=by
     show (if inR (l.getD k 0) 0 b = true then _ else _) = _
     rw [show inR (l.getD k 0) 0 b = false from hx];rfl
    rw [e]
    refine ⟨_,?_,rfl⟩
    exact ⟨hl,.inl ⟨rfl,rfl⟩⟩
theorem AG0 {x:SR} {s:SO1} (h:RS x s):∃ y,RS y (sN s).2 ∧ zO R x = some ((sN s).1,(y,())):=by
 obtain ⟨l,a,u⟩:=x
 obtain ⟨v,ov⟩:=s
 obtain ⟨hl,h⟩:=h
 have hl:l.length ≤ 1048576:=hl
 rw [show zO R (l,(a,u)) = _ from call (AF5 R L _)]
 rcases h with ⟨h,k,hk,hkl,hv⟩ | ⟨h,hv,hk⟩
 ·have h:ov = false:=h
  subst h
  have hk:a = (k:Int):=hk
  subst hk
  have hv:v = l.drop k:=hv
  subst hv
  have hkl:k ≤ l.length:=hkl
  by_cases he:k = l.length
  ·subst he
   rw [List.drop_length,dT (show ((l.length:Nat):Int) ≤ ((l.length:Nat):Int) by omega)]
   exact ⟨(l,(_,u)),⟨hl,.inl ⟨rfl,l.length,rfl,Nat.le_refl _,(List.drop_length ..).symm⟩⟩,rfl⟩
  ·have hlt:k < l.length:=by omega
   rw [xZ (d:=0) hlt,dF (show ¬ ((l.length:Nat):Int) ≤ ((k:Nat):Int) by omega),show IntKind.wrap .i64 (IntKind.wrap .i64 ((k:Int) + 1) - 1) = (k:Int) by rw [zB (by omega),aG (by omega)],zB (by omega)]
   simp (disch:=omega) only [st]
   refine ⟨_,?_,rfl⟩
   exact ⟨hl,.inl ⟨rfl,k + 1,rfl,hlt,rfl⟩⟩
 ·have h:ov = true:=h
  subst h
  have hv:v = []:=hv
  subst hv
  have hk:a = (l.length:Int) + 1:=hk
  subst hk
  rw [dT (show ((l.length:Nat):Int) ≤ ((l.length:Nat):Int) + 1 by omega)]
  exact ⟨(l,(_,u)),⟨hl,.inr ⟨rfl,rfl,rfl⟩⟩,rfl⟩
theorem A1Z {x:SR} {s:SO1} (h:RS x s) (b:Int):∃ y,RS y (sC b s).2 ∧ yR R x b = some ((sC b s).1,(y,())):=by
 obtain ⟨y,hy,e⟩:=AG0 h
 rw [show yR R x b = _ from call (AA7 R L x b),e]
 simp only [Option.bind_some,pG]
 unfold sC
 cases hx:inB (sN s).1 0 b with
 | true=>
  rw [if_pos (show inR (sN s).1 0 b = true from hx)]
  exact ⟨y,hy,rfl⟩
 | false=>
  rw [show inR (sN s).1 0 b = false from hx,if_neg Bool.false_ne_true,zI (by have:=hy.1;omega) (by have:=hy.1;omega)]
  refine ⟨_,?_,rfl⟩
  exact ⟨hy.1,.inr ⟨rfl,rfl,rfl⟩⟩
theorem A23 {b:Int} {n:Nat} (hn:n ≤ 1000):∀ (c i:Nat) {x:PR} {o:LO} (acc:List Int),i + c = n → RP x o → acc.length = i → ∃ y,RP y (pS b c o).2 ∧ wE R L x 0 b acc (n:Int) (i:Int) = some (acc ++ (pS b c o).1,(y,()))
 | 0,i,x,o,acc,hi,h,ha=>by
  rw [show wE R L x 0 b acc (n:Int) (i:Int) = _ from round (by kernel_rfl) (kP R L x 0 b acc (n:Int) (i:Int)),aC (by omega)]
  refine ⟨x,h,?_⟩
  show some (acc,_) = some (acc ++ [],_);rw [List.append_nil]
 | c + 1,i,x,o,acc,hi,h,ha=>by
  obtain ⟨y,hy,e⟩:=Af7 h b
  obtain ⟨z,hz,e2⟩:=A23 hn c (i + 1) (acc ++ [(pN b o).1]) (by omega) hy (by rw [List.length_append,ha];rfl)
  refine ⟨z,hz,?_⟩
  rw [show wE R L x 0 b acc (n:Int) (i:Int) = _ from round (by kernel_rfl) (kP R L x 0 b acc (n:Int) (i:Int)),bL (by omega),e,zB (by omega)]
  simp (disch:=omega) only [st,e2]
  rw [List.append_assoc];rfl
theorem BY7 {b:Int} {n:Nat} (hn:n ≤ 1000) {x:PR} {o:LO} (h:RP x o):∃ y,RP y (pS b n o).2 ∧ xL R x (n:Int) 0 b = some ((pS b n o).1,(y,())):=by
 obtain ⟨y,hy,e⟩:=A23 (b:=b) hn n 0 [] (by omega) h rfl
 exact ⟨y,hy,Eq.trans (call (AF2 R L x (n:Int) 0 b):xL R x (n:Int) 0 b = _) e⟩
theorem BS9 {n:Nat} (hn:n ≤ 1000):∀ (c i:Nat) {x:PR} {o:LO} (acc:List TB),i + c = n → RP x o → acc.length = i → ∃ y,RP y (pB c o).2 ∧ wJ R L x acc (n:Int) (i:Int) = some (acc ++ (pB c o).1,(y,()))
 | 0,i,x,o,acc,hi,h,ha=>by
  rw [show wJ R L x acc (n:Int) (i:Int) = _ from round (by kernel_rfl) (jT R L x acc (n:Int) (i:Int)),aC (by omega)]
  refine ⟨x,h,?_⟩
  show some (acc,_) = some (acc ++ [],_);rw [List.append_nil]
 | c + 1,i,x,o,acc,hi,h,ha=>by
  obtain ⟨y1,h1,e1⟩:=Af7 h 11
  obtain ⟨y2,h2,e2⟩:=Af7 h1 7
  obtain ⟨y3,h3,e3⟩:=Af7 h2 999999
  obtain ⟨z,hz,e4⟩:=BS9 hn c (i + 1) (acc ++ [(pB1 o).1]) (by omega) h3 (by rw [List.length_append,ha];rfl)
  refine ⟨z,hz,?_⟩
  rw [show wJ R L x acc (n:Int) (i:Int) = _ from round (by kernel_rfl) (jT R L x acc (n:Int) (i:Int)),bL (by omega),e1,zB (by omega)]
  simp (disch:=omega) only [st,e2,e3]
  refine Eq.trans e4 ?_
  rw [List.append_assoc];rfl
theorem BS6 (b:Nat) (hb:b ≤ 1000) {x:PR} {o:LO} (h:RP x o):∃ y,RP y (pB (pN (b:Int) o).1.toNat (pN (b:Int) o).2).2 ∧ wO R x (b:Int) = some ((pB (pN (b:Int) o).1.toNat (pN (b:Int) o).2).1,(y,())):=by
 obtain ⟨y1,h1,e1⟩:=Af7 h (b:Int)
 obtain ⟨n,hn⟩:=Int.eq_ofNat_of_zero_le (BH7 (b:Int) (by omega) o).1
 have hb2:=(BH7 (b:Int) (by omega) o).2
 obtain ⟨z,hz,e2⟩:=BS9 (n:=n) (by omega) n 0 [] (by omega) h1 rfl
 rw [show wO R x (b:Int) = _ from call (AG6 R L x (b:Int)),e1]
 simp only [Option.bind_some]
 rw [hn,Int.toNat_natCast]
 exact ⟨z,hz,e2⟩
theorem BV2 {x:PR} {o:LO} (h:RP x o):rS R x = some (pE o,(x,())):=by
 obtain ⟨l,a,bad,u⟩:=x
 obtain ⟨hl,h⟩:=h
 have hl:l.length ≤ 1048576:=hl
 rw [show rS R (l,(a,(bad,u))) = _ from call (AS7 R L _)]
 rcases h with ⟨rfl,h⟩ | ⟨h,k,hk,hkl,rfl⟩
 ·have h:bad = true:=h
  subst h;rfl
 ·have h:bad = false:=h
  subst h
  have hk:a = (k:Int):=hk
  subst hk
  have hkl:k ≤ l.length:=hkl
  show cond (!false) (cond (zA (k:Int)) (cond (Nat.ble l.length l.length) (cond (Nat.ble (k:Int).toNat l.length) ((uS R (List.drop (k:Int).toNat (List.take l.length l)) _).bind fun r0=>_) none) none) none) _ = _
  rw [List.take_length,iX (l.drop (k:Int).toNat) _ (fun n=>decide (n = 0)) (by rw [List.length_drop];omega) (fun s _=>by
   rw [AF1,show mL R s = _ from call (AJ4 R L s)];rfl)]
  simp (disch:=omega) only [st,Bool.not_false]
  rfl
theorem BT1 {x:SR} {s:SO1} (h:RS x s):tI R x = some (sE s,(x,())):=by
 obtain ⟨l,a,u⟩:=x
 obtain ⟨v,ov⟩:=s
 obtain ⟨hl,h⟩:=h
 have hl:l.length ≤ 1048576:=hl
 rw [show tI R (l,(a,u)) = _ from call (AF0 R L _)]
 have hm:∀ (n i k:Nat),l.length - i = n → i ≤ l.length → k ≤ l.length → yS R L (l,((k:Int),u)) (i:Int) = some ((l.drop i).all fun n=>decide (n = 0),((l,((k:Int),u)),())):=by
  intro n
  induction n with
  | zero=>
   intro i k hn hi hk
   rw [show yS R L (l,((k:Int),u)) (i:Int) = _ from round (by kernel_rfl) (pH R L _ (i:Int)),aC (by show l.length ≤ i;omega),List.drop_eq_nil_of_le (by omega)]
   show some (decide ((k:Int) ≤ (l.length:Int)),_) = _
   rw [dT (show (k:Int) ≤ (l.length:Int) by omega)];rfl
  | succ n ih=>
   intro i k hn hi hk
   have hlt:i < l.length:=by omega
   rw [show yS R L (l,((k:Int),u)) (i:Int) = _ from round (by kernel_rfl) (pH R L _ (i:Int)),bL (show i < l.length from hlt),xZ (d:=0) hlt,List.all_cons,zB (by omega)]
   simp (disch:=omega) only [st]
   rw [ih (i + 1) k (by omega) (by omega) hk,wY]
   cases decide (l.getD i 0 = 0) <;> rfl
 rcases h with ⟨h,k,hk,hkl,hv⟩ | ⟨h,hv,hk⟩
 ·have h:ov = false:=h
  subst h
  have hk:a = (k:Int):=hk
  subst hk
  have hv:v = l.drop k:=hv
  subst hv
  refine (hm _ k k rfl hkl hkl).trans ?_
  unfold sE
  rw [Bool.not_false,Bool.and_true]
 ·have h:ov = true:=h
  subst h
  have hk:a = (l.length:Int) + 1:=hk
  subst hk
  show yS R L (l,((l.length:Int) + 1,u)) ((l.length:Int) + 1) = _
  rw [show yS R L (l,((l.length:Int) + 1,u)) ((l.length:Int) + 1) = _ from round (by kernel_rfl) (pH R L _ _),dF (show ¬ ((l.length:Int) + 1) < (l.length:Int) by omega)]
  show some (decide ((l.length:Int) + 1 ≤ (l.length:Int)),_) = _
  rw [dF (show ¬ ((l.length:Int) + 1) ≤ (l.length:Int) by omega),A0z rfl]
end Go.Rf.S

end
section
namespace Go.Rf.S
set_option maxRecDepth 100000
theorem A5M {α:Type} (F:Int → Option (Bool × Unit)) (v:List α) (d:α) (p:α → Bool)
  (stop:F (v.length:Nat) = some (false,()))
  (step:∀ (i:Nat),i < v.length → F i = cond (p (v.getD i d)) (some (true,())) (F ((i + 1:Nat):Int))):
  ∀ (n i:Nat),v.length - i = n → i ≤ v.length → F i = some ((v.drop i).any p,())
 | 0,i,hn,hi=>by
  have:i = v.length:=by omega
  subst this
  rw [stop,List.drop_eq_nil_of_le (Nat.le_refl _)];rfl
 | n + 1,i,hn,hi=>by
  rw [step i (by omega),xZ (d:=d) (by omega),List.any_cons,A5M F v d p stop step n (i + 1) (by omega) (by omega)]
  cases p (v.getD i d) <;> rfl
theorem A9K:∀ (f a:Nat) (acc:List Int),a + 2 ≤ 2 ^ f → acc.length + f ≤ 60 → lS R L acc (a:Int) = some (A2B f a ++ acc,())
 | 0,a,acc,h,_=>by rw [Nat.pow_zero] at h;omega
 | f + 1,a,acc,h,hl=>by
  rw [Nat.pow_succ] at h
  rw [show lS R L acc (a:Int) = _ from round (by kernel_rfl) (A1g R L acc (a:Int))]
  unfold A2B
  by_cases h0:a = 0
  ·subst h0
   simp (disch:=omega) only [st]
   rfl
  ·have ha:a ≤ 4611686018427387904:=by
    have:(2:Nat) ^ f ≤ 2 ^ 61:=Nat.pow_le_pow_right (by decide) (by omega)
    omega
   have e:IntKind.wrap .i64 (Int.tdiv (IntKind.wrap .i64 ((a:Int) - 1)) 2) = (((a - 1) / 2:Nat):Int):=by
    rw [zI (n:=(a:Int) - 1) (by omega) (by omega),show (a:Int) - 1 = ((a - 1:Nat):Int) by omega]
    show IntKind.wrap .i64 (((a - 1) / 2:Nat):Int) = _
    rw [zI (by omega) (by omega)]
   rw [if_neg h0,e]
   simp (disch:=omega) only [st]
   rw [A9K f ((a - 1) / 2) _ (by omega) (by simp only [List.length_append,List.length_cons,List.length_nil];omega),List.append_assoc]
theorem Bl9 {l:Int} (h:inB l 0 7 = true):aT R l = some (AE9 l,()):=by
 have hb:=rP h
 have:=A9K 4 (7 + l.toNat) [] (by omega) (by simp)
 rw [List.append_nil] at this
 rw [show aT R l = _ from call (A5P R L l),show IntKind.wrap .i64 (7 + l) = ((7 + l.toNat:Nat):Int) by rw [zI (by omega) (by omega)];omega]
 exact this
theorem Ao1:∀ f a,(A2B f a).length ≤ f
 | 0,_=>Nat.le_refl _
 | f + 1,a=>by
  unfold A2B
  split
  ·simp
  ·have:=Ao1 f ((a - 1) / 2)
   rw [List.length_append];simp only [List.length_cons,List.length_nil];omega
theorem By7 (i:Nat) {l:Int} (h:inB l 0 7 = true):AX2 R (i:Int) l = some (onB i l,()):=by
 have hl:(AE9 l).length ≤ 4:=Ao1 _ _
 rw [show AX2 R (i:Int) l = _ from call (A8l R L (i:Int) l),Bl9 h]
 exact A5M (fun k=>oD R L (i:Int) (AE9 l) k) (AE9 l) 0 (fun x=>decide (x = (i:Int))) (by
   show oD R L (i:Int) (AE9 l) ((AE9 l).length:Nat) = _
   rw [show oD R L (i:Int) (AE9 l) ((AE9 l).length:Nat) = _ from round (by kernel_rfl) (As3 R L (i:Int) (AE9 l) ((AE9 l).length:Nat)),aC (Nat.le_refl _)];rfl) (fun k hk=>by
   show oD R L (i:Int) (AE9 l) (k:Nat) = _
   rw [show oD R L (i:Int) (AE9 l) (k:Nat) = _ from round (by kernel_rfl) (As3 R L (i:Int) (AE9 l) (k:Nat)),bL hk,zB (by omega)]
   simp (disch:=omega) only [st,wY]) _ 0 rfl (Nat.zero_le _)
theorem Bv8 (l:List Int) (n:Int) (hl:l.length ≤ 1048576):AI1 R l n = some (AS3 l n,()):=by
 rw [show AI1 R l n = _ from call (A8s R L l n)]
 exact A5M (fun k=>oB R L l n k) l 0 (fun x=>decide (x = n)) (by
   show oB R L l n (l.length:Nat) = _
   rw [show oB R L l n (l.length:Nat) = _ from round (by kernel_rfl) (Am2 R L l n (l.length:Nat)),aC (Nat.le_refl _)];rfl) (fun k hk=>by
   show oB R L l n (k:Nat) = _
   rw [show oB R L l n (k:Nat) = _ from round (by kernel_rfl) (Am2 R L l n (k:Nat)),bL hk,zB (by omega)]
   simp (disch:=omega) only [st,wY]) _ 0 rfl (Nat.zero_le _)
abbrev DO:Type:=List Int × (List DB × (List (List DB) × Unit))
theorem BH5 (o:DO) (b:DB) (seen:List Int) (ho:o.1.length = 12) (hs:seen.length ≤ 1048576):fA R o b seen = some (A32 o.1 b && !AS3 seen b.1,()):=by
 rw [show fA R o b seen = _ from call (A3t R L o b seen),pG]
 unfold A32
 cases h1:inB b.1 0 11 with
 | false=>rw [show inR b.1 0 11 = false from h1];rfl
 | true=>
  have hb:=rP h1
  rw [show inR b.1 0 11 = true from h1]
  simp (disch:=omega) only [st,wY,pG,Bv8 seen b.1 hs]
  rw [show inB b.2.2.1 0 999999 = inR b.2.2.1 0 999999 from rfl]
  cases decide (o.1.getD b.1.toNat 0 = b.2.1) <;> cases inR b.2.2.1 0 999999 <;> rfl
theorem BD6 (o:DO) (i:Nat) (ho:o.1.length = 12) (hp:o.1.all fH = true) (hi:i < o.2.2.1.length) (hk:(o.2.2.1.getD i []).length ≤ 2) (hbl:o.2.2.1.length = 15):∀ (n k:Nat) (seen:List Int),(o.2.2.1.getD i []).length - k = n → k ≤ (o.2.2.1.getD i []).length → seen.length + 3 ≤ 1048576 + k →
  mX R L o seen (i:Int) (k:Int) = cond (BI1 o.1 i seen ((o.2.2.1.getD i []).drop k)) (oP R L o (seen ++ ids ((o.2.2.1.getD i []).drop k)) ((i + 1:Nat):Int)) (some (false,()))
 | 0,k,seen,hn,hkl,hs=>by
  rw [show mX R L o seen (i:Int) (k:Int) = _ from round (by kernel_rfl) (Ae2 R L o seen (i:Int) (k:Int)),List.drop_eq_nil_of_le (by omega),zB (by omega)]
  simp (disch:=omega) only [st,dF]
  rw [show ids [] = [] from rfl,List.append_nil];rfl
 | n + 1,k,seen,hn,hkl,hs=>by
  have hlt:k < (o.2.2.1.getD i []).length:=by omega
  rw [show mX R L o seen (i:Int) (k:Int) = _ from round (by kernel_rfl) (Ae2 R L o seen (i:Int) (k:Int)),xZ (d:=(0,(0,(0,())))) hlt,zB (i:=k) (by omega)]
  generalize hB:(o.2.2.1.getD i []).getD k (0,(0,(0,()))) = b
  simp (disch:=omega) only [st,dT,hB,BH5 o b seen ho (by omega)]
  rw [BD4]
  cases h1:(A32 o.1 b && !AS3 seen b.1) with
  | false=>rfl
  | true=>
   have hb:inB b.2.1 0 7 = true:=by
    have:=h1
    simp only [Bool.and_eq_true] at this
    have:=A38 ho hp this.1
    unfold Aj2 at this
    simp only [Bool.and_eq_true] at this
    exact this.2.1
   rw [By7 i hb]
   simp only [Option.bind_some]
   cases onB i b.2.1 with
   | false=>rfl
   | true=>
    have ih:=BD6 o i ho hp hi hk hbl n (k + 1) (seen ++ [b.1]) (by omega) (by omega) (by rw [List.length_append];simp only [List.length_cons,List.length_nil];omega)
    simp (disch:=omega) only [st,Bool.not_true,ih]
    rw [show ids (b :: (o.2.2.1.getD i []).drop (k + 1)) = [b.1] ++ ids ((o.2.2.1.getD i []).drop (k + 1)) from rfl,List.append_assoc];rfl
theorem A91 (o:DO) (ho:o.1.length = 12) (hp:o.1.all fH = true) (hbl:o.2.2.1.length = 15):∀ (n i:Nat) (seen:List Int),15 - i = n → i ≤ 15 → seen.length ≤ 1000 + 2 * i → oP R L o seen (i:Int) = some (bkS o.1 i seen (o.2.2.1.drop i),())
 | 0,i,seen,hn,hi,hs=>by
  rw [show oP R L o seen (i:Int) = _ from round (by kernel_rfl) (Ai1 R L o seen (i:Int)),dF (show ¬ (i:Int) < 15 by omega),List.drop_eq_nil_of_le (by omega)];rfl
 | n + 1,i,seen,hn,hi,hs=>by
  have hlt:i < o.2.2.1.length:=by omega
  rw [show oP R L o seen (i:Int) = _ from round (by kernel_rfl) (Ai1 R L o seen (i:Int)),dT (show (i:Int) < 15 by omega),xZ (d:=[]) hlt]
  rw [BL4]
  simp (disch:=omega) only [st]
  by_cases hk:(o.2.2.1.getD i []).length ≤ 2
  ·rw [dF (show ¬ (2:Int) < ((o.2.2.1.getD i []).length:Int) by omega),dT hk]
   have e:=BD6 o i ho hp hlt hk hbl _ 0 seen rfl (Nat.zero_le _) (by omega)
   rw [List.drop_zero] at e
   simp only [cond_false,Bool.true_and]
   refine Eq.trans e ?_
   cases BI1 o.1 i seen (o.2.2.1.getD i []) with
   | false=>rfl
   | true=>
    rw [cond_true,A91 o ho hp hbl n (i + 1) _ (by omega) (by omega) (by rw [List.length_append,show (ids (o.2.2.1.getD i [])).length = (o.2.2.1.getD i []).length from List.length_map _];omega)];rfl
  ·rw [dT (show (2:Int) < ((o.2.2.1.getD i []).length:Int) by omega),dF hk];rfl
theorem BF9 (o:DO) (ho:o.1.length = 12) (hp:o.1.all fH = true) (hbl:o.2.2.1.length = 15) (hst:o.2.1.length ≤ 12):∀ (n i:Nat) (seen:List Int),o.2.1.length - i = n → i ≤ o.2.1.length → seen.length = i →
  lB R L o seen (i:Int) = some (Ai6 o.1 seen (o.2.1.drop i) && bkS o.1 0 (seen ++ ids (o.2.1.drop i)) o.2.2.1,())
 | 0,i,seen,hn,hi,hs=>by
  rw [show lB R L o seen (i:Int) = _ from round (by kernel_rfl) (Ag5 R L o seen (i:Int)),aC (by omega),List.drop_eq_nil_of_le (by omega)]
  have:=A91 o ho hp hbl 15 0 seen rfl (by omega) (by omega)
  rw [show ids [] = [] from rfl,List.append_nil]
  exact this
 | n + 1,i,seen,hn,hi,hs=>by
  have hlt:i < o.2.1.length:=by omega
  rw [show lB R L o seen (i:Int) = _ from round (by kernel_rfl) (Ag5 R L o seen (i:Int)),bL hlt,xZ (d:=(0,(0,(0,())))) hlt,zB (i:=i) (by omega)]
  generalize hB:o.2.1.getD i (0,(0,(0,()))) = b
  have ih:=BF9 o ho hp hbl hst n (i + 1) (seen ++ [b.1]) (by omega) (by omega) (by rw [List.length_append,hs];rfl)
  simp (disch:=omega) only [st,hB,BH5 o b seen ho (by omega),ih]
  rw [A84]
  cases (A32 o.1 b && !AS3 seen b.1) with
  | false=>rfl
  | true=>
   rw [show ids (b :: o.2.1.drop (i + 1)) = [b.1] ++ ids (o.2.1.drop (i + 1)) from rfl,← List.append_assoc,Bool.true_and];rfl
theorem Bi2 (o:DO) (h1:o.1.length ≤ 4096):AM5 R o = some (Ar1 o,()):=by
 rw [show AM5 R o = _ from call (A8I R L o),BK8 o.1 (by omega)]
 unfold Ar1
 rw [show o.1.all A14 = o.1.all fH from rfl]
 by_cases a1:o.1.length = 12
 ·rw [dT a1]
  simp (disch:=omega) only [st,Bool.not_true]
  cases hp:o.1.all fH with
  | false=>rfl
  | true=>
   by_cases a2:o.2.1.length ≤ 12
   ·rw [dT a2,dF (show ¬ (12:Int) < (o.2.1.length:Int) by omega)]
    by_cases a3:o.2.2.1.length = 15
    ·have:=BF9 o a1 hp a3 a2 _ 0 [] rfl (Nat.zero_le _) rfl
     rw [dT a3]
     simp (disch:=omega) only [st,Bool.not_true]
     exact this
    ·rw [dF a3]
     simp (disch:=omega) only [st,Bool.not_true,Bool.not_false]
     rfl
   ·rw [dF a2,dT (show (12:Int) < (o.2.1.length:Int) by omega)];rfl
 ·rw [dF a1]
  simp (disch:=omega) only [st,Bool.not_false]
  rfl
theorem BO5:∀ (l:List Int) (i:Nat),i < l.length → l.take (i + 1) = l.take i ++ [l.getD i 0]:=fun l i h=>by
 rw [List.take_add_one,List.getD_eq_getElem?_getD,List.getElem?_eq_getElem h];rfl
theorem BT5 (e:DE) (he:e.1.length ≤ 1000):∀ (n i:Nat),e.1.length - i = n → i ≤ e.1.length → oE R L e (i:Int) = some (Bg3 (e.1.take i) (e.1.drop i),())
 | 0,i,hn,hi=>by
  rw [show oE R L e (i:Int) = _ from round (by kernel_rfl) (Aq6 R L e (i:Int)),aC (i:=i) (n:=e.1.length) (by omega),(List.drop_eq_nil_of_le (by omega):e.1.drop i = [])];rfl
 | n + 1,i,hn,hi=>by
  have hlt:i < e.1.length:=by omega
  rw [show oE R L e (i:Int) = _ from round (by kernel_rfl) (Aq6 R L e (i:Int)),bL hlt,xZ (d:=0) hlt,zB (by omega),pG,BT5 e he n (i + 1) (by omega) (by omega),BO5 e.1 i hlt,tn]
  generalize e.1.getD i 0 = k
  simp (disch:=omega) only [st,List.drop_zero,Bv8 (e.1.take i) k (by rw [List.length_take];omega)]
  rw [show inB k 0 9999 = inR k 0 9999 from rfl]
  rw [A8j]
  cases inR k 0 9999 with
  | false=>rfl
  | true=>
   cases decide (0 < k) with
   | false=>rfl
   | true=>cases AS3 (e.1.take i) k <;> rfl
theorem Bi4 (e:DE) (h:e.1.length ≤ 1048576) (h1:e.2.1.1.length ≤ 4096):AI0 R e = some (Ac6 e,()):=by
 rw [show AI0 R e = _ from call (BG0 R L e),Bi2 e.2.1 h1]
 unfold Ac6
 by_cases a1:e.1.length = 11
 ·rw [dT a1]
  have e0:=BT5 e (by omega) _ 0 rfl (Nat.zero_le _)
  rw [List.take_zero,List.drop_zero,A44 e.1 [] [] (fun _ _=>rfl)] at e0
  have e0:oE R L e 0 = _:=e0
  simp (disch:=omega) only [st,Bool.not_true,e0]
  cases Ar1 e.2.1 <;> cases A33 [] e.1 <;> rfl
 ·rw [dF a1]
  simp (disch:=omega) only [st,Bool.not_false]
  cases A33 [] e.1 <;> rfl
theorem Bt7 (r:DR) (hr:r.2.1.length ≤ 1048576):jN R r = some (Ao4 r,()):=by
 rw [show jN R r = _ from call (Am6 R L r),pG]
 unfold Ao4
 have h:=A06 (fun i=>xT R L r r false i) r.2.1 0 (fun n=>inB n 0 999999) true (by
  show xT R L r r false (r.2.1.length:Nat) = _
  rw [show xT R L r r false (r.2.1.length:Nat) = _ from round (by kernel_rfl) (bU R L r r false (r.2.1.length:Nat)),aC (Nat.le_refl _)];rfl) (fun i hlt=>by
  show xT R L r r false (i:Nat) = _
  rw [show xT R L r r false (i:Nat) = _ from round (by kernel_rfl) (bU R L r r false (i:Nat)),bL hlt,nn,tn,zX hlt,pG,zB (by omega)]
  simp only [cond_true,Option.bind_some]
  cases inB (r.2.1.getD i 0) 0 999999 <;> rfl) _ 0 rfl (by omega)
 have h:xT R L r r false 0 = some (r.2.1.all (fun n=>inB n 0 999999) && true,()):=h
 simp only [Option.bind_some,h,wY,Bool.and_true]
 cases inB r.1 0 19 with
 | false=>rfl
 | true=>
  by_cases a:r.2.1.length ≤ 32
  ·rw [dT a,dF (show ¬ (32:Int) < (r.2.1.length:Int) by omega)]
   by_cases z:r.2.1.length = 0
   ·rw [dT z,dF (show ¬ (0:Int) < (r.2.1.length:Int) by omega)]
    cases decide (r.1 = 0) <;> rfl
   ·rw [dF z,dT (show (0:Int) < (r.2.1.length:Int) by omega)]
    cases decide (r.1 = 0) <;> rfl
  ·rw [dF a,dT (show (32:Int) < (r.2.1.length:Int) by omega)];rfl
theorem Bk7 (l:List DR) (hl:l.length ≤ 1048576) (hr:∀ r ∈ l,r.2.1.length ≤ 1048576):gG R l = some (cP l,()):=by
 have h:=A06 (fun i=>vY R L l false i) l (0,([],())) Ao4 (decide (l.length ≤ 2)) (by
  show vY R L l false (l.length:Nat) = _
  rw [show vY R L l false (l.length:Nat) = _ from round (by kernel_rfl) (AE2 R L l false (l.length:Nat)),aC (Nat.le_refl _),show decide ((l.length:Int) ≤ 2) = decide (l.length ≤ 2) from decide_eq_decide.2 (by omega)];rfl) (fun i hlt=>by
  show vY R L l false (i:Nat) = _
  rw [show vY R L l false (i:Nat) = _ from round (by kernel_rfl) (AE2 R L l false (i:Nat)),bL hlt,nn,tn,zX hlt,Bt7 _ (hr _ (sL hlt)),zB (by omega)]
  simp only [cond_true,Option.bind_some]
  cases Ao4 (l.getD i (0,([],()))) <;> rfl) _ 0 rfl (by omega)
 unfold cP
 rw [Bool.and_comm]
 exact Eq.trans (call (Av2 R L l):gG R l = _) h
theorem Bj6 (l:List DB) (hl:l.length ≤ 1048576):fU R l = some (A2D l,()):=by
 have h:=A06 (fun i=>uZ R L l i) l (0,(0,(0,()))) Aj2 (decide (l.length ≤ 2)) (by
  show uZ R L l (l.length:Nat) = _
  rw [show uZ R L l (l.length:Nat) = _ from round (by kernel_rfl) (AI7 R L l (l.length:Nat)),aC (Nat.le_refl _),show decide ((l.length:Int) ≤ 2) = decide (l.length ≤ 2) from decide_eq_decide.2 (by omega)];rfl) (fun i hlt=>by
  show uZ R L l (i:Nat) = _
  rw [show uZ R L l (i:Nat) = _ from round (by kernel_rfl) (AI7 R L l (i:Nat)),bL hlt,nn,tn,zX hlt,zB (by omega)]
  simp only [cond_true,Option.bind_some,pG]
  generalize l.getD i (0,(0,(0,()))) = b
  unfold Aj2
  rw [show inR b.1 0 11 = inB b.1 0 11 from rfl,show inR b.2.1 0 7 = inB b.2.1 0 7 from rfl,show inR b.2.2.1 0 999999 = inB b.2.2.1 0 999999 from rfl]
  cases inB b.1 0 11 <;> cases inB b.2.1 0 7 <;> cases inB b.2.2.1 0 999999 <;> rfl) _ 0 rfl (by omega)
 exact Eq.trans (call (A0f R L l):fU R l = _) h
theorem Ba6 (l:List TR) (h:cP l = true):l.all BX4 = true:=by
 unfold cP at h
 simp only [Bool.and_eq_true] at h
 rw [List.all_eq_true]
 intro r hr
 have:=List.all_eq_true.1 h.2 r hr
 unfold Ao4 at this
 simp only [Bool.and_eq_true] at this
 unfold BX4
 rw [show inR r.1 0 19 = true from this.1,show (r.2.1.all fun v=>inR v 0 999999) = true from this.2.2.2];rfl
theorem Bt1 (r:DR):cS R r = some (Ao4 r,()):=by
 rw [show cS R r = _ from call (A3Y R L r),show AL7 R r.1 = some (inB r.1 0 19,()) by rw [show AL7 R r.1 = _ from call (A7n R L r.1),qE];rfl]
 unfold Ao4
 simp only [Option.bind_some,wY]
 cases inB r.1 0 19 with
 | false=>rfl
 | true=>
  by_cases a:r.2.1.length ≤ 32
  ·rw [dT a,dT (show (r.2.1.length:Int) ≤ 32 by omega),iX r.2.1 _ (fun n=>inB n 0 999999) (by omega) (fun s _=>by rw [A1z,As9];rfl),show decide ((r.2.1.length:Int) = 0) = decide (r.2.1.length = 0) from decide_eq_decide.2 (by omega)]
   simp only [Option.bind_some,cond_true]
   cases (r.2.1.all fun n=>inB n 0 999999) <;> cases decide (r.1 = 0) <;> cases decide (r.2.1.length = 0) <;> rfl
  ·rw [dF a,dF (show ¬ (r.2.1.length:Int) ≤ 32 by omega)];rfl
theorem Bn9 (l:List DR):gO R l = some (cP l,()):=by
 rw [show gO R l = _ from call (Aw0 R L l)]
 unfold cP
 by_cases a:l.length ≤ 2
 ·rw [dT a,dT (show (l.length:Int) ≤ 2 by omega),AF3 l _ Ao4 (by omega) (fun s _=>by rw [A07,Bt1];rfl)]
  rfl
 ·rw [dF a,dF (show ¬ (l.length:Int) ≤ 2 by omega)];rfl
end Go.Rf.S

end
section
namespace Go.Rf.S
set_option maxRecDepth 100000
theorem Bq1 (l:List Int) (hl:l.length ≤ 1048576):mP R l = some (l.reverse,()):=
 (A81 (f:=366) rfl _).trans (A6u (E:=EE) (f:=366) (x:=(l.reverse,())) rfl (Bm3 (E:=EE) rfl l hl))
theorem BK7 (l:List (List DB)) (hl:l.length ≤ 1048576) (hf:l.flatten.length ≤ 1048576):rZ R l = some (l.flatten,()):=
 (A81 (f:=303) rfl _).trans (A6u (E:=EE) (f:=303) (x:=(l.flatten,())) rfl (A9E (E:=EE) rfl l hl hf))
theorem A8i:∀ (f a:Nat) (acc:List Int),a + 2 ≤ 2 ^ f → acc.length + f ≤ 60 → jC R L acc (a:Int) = some (A2B f a ++ acc.reverse,())
 | 0,a,acc,h,_=>by rw [Nat.pow_zero] at h;omega
 | f + 1,a,acc,h,hl=>by
  rw [Nat.pow_succ] at h
  rw [show jC R L acc (a:Int) = _ from round (by kernel_rfl) (A2G R L acc (a:Int))]
  unfold A2B
  by_cases h0:a = 0
  ·subst h0
   simp (disch:=omega) only [st,Bq1 (acc ++ [((0:Nat):Int)]) (by rw [List.length_append];simp only [List.length_cons,List.length_nil];omega)]
   rw [List.reverse_append];rfl
  ·have ha:a ≤ 4611686018427387904:=by
    have:(2:Nat) ^ f ≤ 2 ^ 61:=Nat.pow_le_pow_right (by decide) (by omega)
    omega
   have e:IntKind.wrap .i64 (Int.tdiv (IntKind.wrap .i64 ((a:Int) - 1)) 2) = (((a - 1) / 2:Nat):Int):=by
    rw [zI (n:=(a:Int) - 1) (by omega) (by omega),show (a:Int) - 1 = ((a - 1:Nat):Int) by omega]
    show IntKind.wrap .i64 (((a - 1) / 2:Nat):Int) = _
    rw [zI (by omega) (by omega)]
   rw [if_neg h0,e]
   simp (disch:=omega) only [st]
   rw [A8i f ((a - 1) / 2) _ (by omega) (by simp only [List.length_append,List.length_cons,List.length_nil];omega),List.reverse_append,List.append_assoc]
   rfl
theorem Bo8 {l:Int} (h:inB l 0 7 = true):AM4 R l = some (AE9 l,()):=by
 have hb:=rP h
 have:=A8i 4 (7 + l.toNat) [] (by omega) (by simp)
 rw [List.reverse_nil,List.append_nil] at this
 rw [show AM4 R l = _ from call (A7u R L l),show IntKind.wrap .i64 (7 + l) = ((7 + l.toNat:Nat):Int) by rw [zI (by omega) (by omega)];omega]
 exact this
theorem Bb1 (l:List Int) (n:Int) (hl:l.length ≤ 1000):∃ k:Int,tZ R l n = some (k,()) ∧ decide ((0:Int) ≤ k) = l.any fun x=>decide (x = n):=by
 have h:∀ (m i:Nat),l.length - i = m → i ≤ l.length → ∃ k:Int,xI R L l n (l.length:Int) (i:Int) = some (k,()) ∧ decide ((0:Int) ≤ k) = (l.drop i).any fun x=>decide (x = n):=by
  intro m
  induction m with
  | zero=>
   intro i hm hi
   rw [show xI R L l n (l.length:Int) (i:Int) = _ from round (by kernel_rfl) (mF R L l n (l.length:Int) (i:Int)),aC (by omega),List.drop_eq_nil_of_le (by omega)]
   exact ⟨-1,rfl,rfl⟩
  | succ m ih=>
   intro i hm hi
   have hlt:i < l.length:=by omega
   obtain ⟨k,e1,e2⟩:=ih (i + 1) (by omega) (by omega)
   rw [show xI R L l n (l.length:Int) (i:Int) = _ from round (by kernel_rfl) (mF R L l n (l.length:Int) (i:Int)),bL hlt,xZ (d:=0) hlt,List.any_cons,zB (by omega)]
   simp (disch:=omega) only [st,e1,wY]
   by_cases hx:l.getD i 0 = n
   ·rw [dT hx.symm,dT hx]
    exact ⟨(i:Int),rfl,by rw [Bool.true_or];exact dT (by omega)⟩
   ·rw [dF (fun h=>hx h.symm),dF hx]
    exact ⟨k,rfl,by rw [Bool.false_or];exact e2⟩
 obtain ⟨k,e1,e2⟩:=h _ 0 rfl (Nat.zero_le _)
 exact ⟨k,Eq.trans (call (bD R L l n):tZ R l n = _) e1,e2⟩
theorem Bx1 (i:Nat) {l:Int} (h:inB l 0 7 = true):gW R (i:Int) l = some (onB i l,()):=by
 obtain ⟨k,e1,e2⟩:=Bb1 (AE9 l) (i:Int) (Nat.le_trans (Ao1 _ _) (by decide))
 rw [show gW R (i:Int) l = _ from call (A18 R L (i:Int) l),Bo8 h]
 simp only [Option.bind_some]
 rw [show rD R (AE9 l) (i:Int) = _ from call (eF R L (AE9 l) (i:Int)),e1]
 simp only [Option.bind_some]
 rw [e2];rfl
theorem A5w (n:Int):kR R n = some (fH n,()):=by
 rw [show kR R n = _ from call (A0X R L n),qE];rfl
theorem BC7 (b:DB):AA1 R b = some (Aj2 b,()):=by
 rw [show AA1 R b = _ from call (A5j R L b),show Aj7 R b.1 = some (inB b.1 0 11,()) by rw [show Aj7 R b.1 = _ from call (BQ3 R L b.1),qE];rfl,A5w,As9]
 unfold Aj2 fH
 rw [show inR b.1 0 11 = inB b.1 0 11 from rfl,show inR b.2.2.1 0 999999 = inB b.2.2.1 0 999999 from rfl]
 cases inB b.1 0 11 <;> cases inR b.2.1 0 7 <;> cases inB b.2.2.1 0 999999 <;> rfl
theorem BY5 (l:List DB) (h:l.length ≤ 1099511627776):wI R l = some (l,()):=by
 rw [show wI R l = _ from call (iB R L l)]
 cases l with
 | nil=>exact AM9 _
 | cons a l=>show cond (yT (0 + (a :: l).length)) (some (a :: l,())) none = _;rw [vU (by omega)];rfl
theorem A9t (o:DO) (ho:o.1.length = 12) (all:List DB) (hal:all.length ≤ 1048576):∀ (n i:Nat) (arr:List Bool),all.length - i = n → i ≤ all.length → arr.length = 12 →
  lG R L o arr all (all.length:Int) (i:Int) = some (BI0 o.1 arr (all.drop i),())
 | 0,i,arr,hn,hi,ha=>by
  rw [show lG R L o arr all (all.length:Int) (i:Int) = _ from round (by kernel_rfl) (Af9 R L o arr all (all.length:Int) (i:Int)),aC (by omega),List.drop_eq_nil_of_le (by omega)];rfl
 | n + 1,i,arr,hn,hi,ha=>by
  have hlt:i < all.length:=by omega
  rw [show lG R L o arr all (all.length:Int) (i:Int) = _ from round (by kernel_rfl) (Af9 R L o arr all (all.length:Int) (i:Int)),bL hlt,xZ (d:=(0,(0,(0,())))) hlt,zB (i:=i) (by omega),tn]
  generalize all.getD i (0,(0,(0,()))) = b
  simp (disch:=omega) only [st,BC7 b]
  have hc:BI0 o.1 arr (b :: all.drop (i + 1)) = ((Aj2 b && (decide (b.2.1 = o.1.getD b.1.toNat 0) && !arr.getD b.1.toNat false)) && BI0 o.1 (arr.set b.1.toNat true) (all.drop (i + 1))):=rfl
  rw [hc]
  cases h1:Aj2 b with
  | false=>rfl
  | true=>
   have hb:0 ≤ b.1 ∧ b.1 ≤ 11:=by
    unfold Aj2 at h1
    simp only [Bool.and_eq_true] at h1
    exact rP h1.1
   have ih:=A9t o ho all hal n (i + 1) (arr.set b.1.toNat true) (by omega) (by omega) (by rw [List.length_set];exact ha)
   simp (disch:=omega) only [st,Bool.not_true,wY,ih]
   cases decide (b.2.1 = o.1.getD b.1.toNat 0) with
   | false=>rfl
   | true=>cases arr.getD b.1.toNat false <;> rfl
theorem A9P (o:DO) (ho:o.1.length = 12) (hbl:o.2.2.1.length = 15) (hf:o.2.1.length + o.2.2.1.flatten.length ≤ 1048576):∀ (n i:Nat),15 - i = n → i ≤ 15 →
  oH R L o o.2.2.1 (o.2.2.1.length:Int) (i:Int) = some (BY9 i (o.2.2.1.drop i) && BI0 o.1 (List.replicate 12 false) (o.2.1 ++ o.2.2.1.flatten),())
 | 0,i,hn,hi=>by
  rw [show oH R L o o.2.2.1 (o.2.2.1.length:Int) (i:Int) = _ from round (by kernel_rfl) (Af8 R L o o.2.2.1 (o.2.2.1.length:Int) (i:Int)),aC (by omega),List.drop_eq_nil_of_le (by omega)]
  have ea:cV R o = some (o.2.1 ++ o.2.2.1.flatten,()):=by
   rw [show cV R o = _ from call (A3d R L o),BY5 _ (by omega),BK7 _ (by omega) (by omega)]
   simp (disch:=omega) only [st]
  have:=A9t o ho (o.2.1 ++ o.2.2.1.flatten) (by rw [List.length_append];exact hf) _ 0 (List.replicate 12 false) rfl (Nat.zero_le _) rfl
  simp only [cond_false,ea,Option.bind_some]
  exact this
 | n + 1,i,hn,hi=>by
  have hlt:i < o.2.2.1.length:=by omega
  have ih:=A9P o ho hbl hf n (i + 1) (by omega) (by omega)
  have hm:o.2.2.1.getD i [] ∈ o.2.2.1:=sL hlt
  rw [show oH R L o o.2.2.1 (o.2.2.1.length:Int) (i:Int) = _ from round (by kernel_rfl) (Af8 R L o o.2.2.1 (o.2.2.1.length:Int) (i:Int)),bL hlt,xZ (d:=[]) hlt,zB (i:=i) (by omega),tn,ih]
  generalize o.2.2.1.getD i [] = k
  have hc:BY9 i (k :: o.2.2.1.drop (i + 1)) = ((decide (k.length ≤ 2) && k.all fun b=>fH b.2.1 && onB i b.2.1) && BY9 (i + 1) (o.2.2.1.drop (i + 1))):=rfl
  rw [hc]
  simp (disch:=omega) only [st]
  by_cases hk:k.length ≤ 2
  ·rw [dT hk,dF (show ¬ (2:Int) < (k.length:Int) by omega),AJ6 k _ (fun b=>fH b.2.1 && onB i b.2.1) (by omega) (fun b _=>by
    rw [A21,show AT0 R b (i:Int) = _ from call (A4q R L b (i:Int)),A5w]
    cases hb:fH b.2.1 with
    | false=>rfl
    | true=>
     rw [show gW R (i:Int) b.2.1 = _ from Bx1 i hb];rfl)]
   simp only [cond_false,Option.bind_some,Bool.true_and]
   cases (k.all fun b=>fH b.2.1 && onB i b.2.1) <;> rfl
  ·rw [dF hk,dT (show (2:Int) < (k.length:Int) by omega)];rfl
theorem Bi7 (o:DO) (h1:o.1.length ≤ 4096) (hf:o.2.1.length + o.2.2.1.flatten.length ≤ 1048576):Aa9 R o = some (Ar1 o,()):=by
 rw [show Aa9 R o = _ from call (A7H R L o),← BQ2,show uS R o.1 (FnVal.mk 205 FCaps.nil) = _ from A71 o.1 h1]
 unfold BY2
 rw [show o.1.all A14 = o.1.all fH from rfl]
 by_cases a1:o.1.length = 12
 ·rw [dT a1]
  simp (disch:=omega) only [st,Bool.not_true]
  cases o.1.all fH with
  | false=>rfl
  | true=>
   by_cases a3:o.2.2.1.length = 15
   ·have e0:oH R L o o.2.2.1 (o.2.2.1.length:Int) 0 = _:=A9P o a1 a3 hf 15 0 rfl (by omega)
    rw [dT a3]
    simp (disch:=omega) only [st,Bool.not_true,e0]
    rfl
   ·rw [dF a3]
    simp (disch:=omega) only [st,Bool.not_true,Bool.not_false]
    rfl
 ·rw [dF a1]
  simp (disch:=omega) only [st,Bool.not_false]
  rfl
theorem Bl7 (e:DE) (hk:e.1.length ≤ 1048576) (h1:e.2.1.1.length ≤ 4096) (hf:e.2.1.2.1.length + e.2.1.2.2.1.flatten.length ≤ 1048576):At1 R e = some (Ac6 e,()):=
 (A81 (f:=162) rfl _).trans (A6u (E:=EE) (f:=162) (x:=(Ac6 e,())) rfl
  (Bj9 (E:=EE) rfl e hk (fun x _=>A7L _ _ _ (BG3 x)) (A7L _ _ _ (Bi7 e.2.1 h1 hf))))
end Go.Rf.S

end
section
namespace Go.Rf.S
set_option maxRecDepth 100000
theorem Bx5 {a b:Nat} (h:a ^^^ b = 0):a = b:=by
 have e:a = (a ^^^ b) ^^^ b:=by rw [Nat.xor_assoc,Nat.xor_self,Nat.xor_zero]
 rw [h,Nat.zero_xor] at e
 exact e
theorem A6v {a b:List UInt8} (hl:a.length = b.length) (ha:a.length ≤ 65536):∀ (n i acc:Nat),a.length - i = n → i ≤ a.length → acc < 256 →
  pM R L a b (acc:Int) (i:Int) = some (decide (acc = 0) && decide (a.drop i = b.drop i),())
 | 0,i,acc,hn,hi,hc=>by
  rw [show pM R L a b (acc:Int) (i:Int) = _ from round (by kernel_rfl) (AP0 R L a b (acc:Int) (i:Int)),aC (i:=i) (n:=a.length) (by omega),(List.drop_eq_nil_of_le (by omega):a.drop i = []),(List.drop_eq_nil_of_le (by omega):b.drop i = []),Bw1]
  cases decide (acc = 0) with
  | false=>rfl
  | true=>simp only [cond_false,cond_true];rw [wY,dT (show (a.length:Int) = (b.length:Int) by omega)];rfl
 | n + 1,i,acc,hn,hi,hc=>by
  have hlt:i < a.length:=by omega
  have hlb:i < b.length:=by omega
  rw [show pM R L a b (acc:Int) (i:Int) = _ from round (by kernel_rfl) (AP0 R L a b (acc:Int) (i:Int)),bL hlt,bL hlb,xZ (d:=0) hlt,xZ (d:=0) hlb,zB (by omega),tn]
  generalize a.getD i 0 = x
  generalize b.getD i 0 = y
  have hx:x.toNat < 2 ^ 8:=x.toNat_lt
  have hy:y.toNat < 2 ^ 8:=y.toNat_lt
  have hxy:x.toNat ^^^ y.toNat < 2 ^ 8:=Nat.xor_lt_two_pow hx hy
  have ho:acc ||| (x.toNat ^^^ y.toNat) < 2 ^ 8:=Nat.or_lt_two_pow hc hxy
  have e1:xH .xor .u8 (x.toNat:Int) (y.toNat:Int) = ((x.toNat ^^^ y.toNat:Nat):Int):=A0w (k:=.u8) hx hy
  have e2:IntKind.wrap .i64 ((x.toNat ^^^ y.toNat:Nat):Int) = ((x.toNat ^^^ y.toNat:Nat):Int):=rA (by omega)
  have e3:xH .or .i64 (acc:Int) ((x.toNat ^^^ y.toNat:Nat):Int) = ((acc ||| (x.toNat ^^^ y.toNat):Nat):Int):=Ah6 (k:=.i64) (by show acc < 2 ^ 63;omega) (by show _ < 2 ^ 63;omega)
  simp (disch:=omega) only [st,e1,e2,e3,A6v hl ha n (i + 1) _ (by omega) (by omega) ho]
  congr 2
  by_cases h0:acc = 0
  ·subst h0
   by_cases hq:x = y
   ·subst hq
    rw [Nat.zero_or,Nat.xor_self]
    simp
   ·have:x.toNat ^^^ y.toNat ≠ 0:=fun h=>hq (UInt8.toNat_inj.1 (Bx5 h))
    rw [Nat.zero_or,dF this]
    simp [hq]
  ·have:acc ||| (x.toNat ^^^ y.toNat) ≠ 0:=fun h=>h0 (Nat.or_eq_zero_iff.1 h).1
   rw [dF this,dF h0];rfl
theorem Bb5 {a b:List UInt8} (hl:a.length = b.length) (ha:a.length ≤ 65536):dZ R a b = some (decide (a = b),()):=by
 have:=A6v hl ha _ 0 0 rfl (Nat.zero_le _) (by decide)
 rw [show dZ R a b = _ from call (A3l R L a b),dF (show ¬ (65536:Int) < (a.length:Int) by omega),dF (show ¬ (65536:Int) < (b.length:Int) by omega)]
 exact this
noncomputable def A5D (key nonce ad t:List UInt8):List UInt8 × Bool:=
 if t.length < 16 then ([],false) else if btF key nonce ad (t.take (t.length - 16)) = t.drop (t.length - 16) then (chX key nonce ((t.take (t.length - 16)).length / 64 + 1) 1 (t.take (t.length - 16)),true) else ([],false)
theorem Bk2 {key nonce ad t:List UInt8} (hk:key.length = 32) (hn:nonce.length = 12) (ha:ad.length ≤ 1048576) (ht:t.length ≤ 1048576):
  AM6 R key nonce ad t = some ((A5D key nonce ad t).1,((A5D key nonce ad t).2,())) ∧ iV R key nonce ad t = some ((A5D key nonce ad t).1,((A5D key nonce ad t).2,())) ∧ (A5D key nonce ad t).1.length ≤ t.length:=by
 unfold A5D
 by_cases h16:t.length < 16
 ·rw [if_pos h16]
  refine ⟨?_,?_,Nat.zero_le _⟩
  ·rw [show AM6 R key nonce ad t = _ from call (A57 R L key nonce ad t),dT (show (t.length:Int) < 16 by omega)];rfl
  ·rw [show iV R key nonce ad t = _ from call (Ap7 R L key nonce ad t),dT (show (t.length:Int) < 16 by omega)];rfl
 ·rw [if_neg h16]
  obtain ⟨m,hm⟩:∃ m,t.length = m + 16:=⟨t.length - 16,by omega⟩
  have hw:IntKind.wrap .i64 ((t.length:Int) - 16) = (m:Int):=by rw [zI (by omega) (by omega)];omega
  have hml:(t.take m).length = m:=by rw [List.length_take];omega
  obtain ⟨b1,b2,b3⟩:=BN7 (key:=key) (nonce:=nonce) (ad:=ad) (t:=t.take m) hk hn (by omega) (by omega)
  have c1:Ad9 R key nonce 1 (t.take m) = some (chX key nonce ((t.take m).length / 64 + 1) 1 (t.take m),()):=BN5 key nonce hk hn 1 (t.take m) (by omega) (by decide)
  have c2:aA R key nonce 1 (t.take m) = some (chX key nonce ((t.take m).length / 64 + 1) 1 (t.take m),()):=BH1 key nonce hk hn 1 (t.take m) (by omega) (by decide)
  have hd:(t.drop m).length = 16:=by rw [List.length_drop];omega
  rw [show t.length - 16 = m by omega]
  refine ⟨?_,?_,?_⟩
  ·rw [show AM6 R key nonce ad t = _ from call (A57 R L key nonce ad t),dF (show ¬ (t.length:Int) < 16 by omega),hw,List.take_length]
   simp (disch:=omega) only [st,List.drop_zero,b1,fI]
   by_cases h:btF key nonce ad (t.take m) = t.drop m
   ·rw [dT h,if_pos h]
    simp (disch:=omega) only [st,Bool.not_true,c1]
   ·rw [dF h,if_neg h];rfl
  ·rw [show iV R key nonce ad t = _ from call (Ap7 R L key nonce ad t),dF (show ¬ (t.length:Int) < 16 by omega),hw,List.take_length]
   simp (disch:=omega) only [st,List.drop_zero,b2,hml,Bb5 (a:=btF key nonce ad (t.take m)) (b:=t.drop m) (by rw [b3,hd]) (by rw [b3];decide)]
   by_cases h:btF key nonce ad (t.take m) = t.drop m
   ·rw [dT h,if_pos h]
    simp (disch:=omega) only [st,Bool.not_true,c2]
    rw [hml]
   ·rw [dF h,if_neg h];rfl
  ·split
   ·have:=BX9 hk hn (t.take m) (by omega)
    show (chX key nonce ((t.take m).length / 64 + 1) 1 (t.take m)).length ≤ _
    omega
   ·exact Nat.zero_le _
noncomputable def opD (key:List UInt8) (a b c:Nat) (t:List UInt8):List UInt8 × Bool:=A5D key (BS4 a b c) blk t
theorem A1f {key t:List UInt8} (hk:key.length = 32) (ht:t.length ≤ 1048576) (a b c:Nat):
  hM R key (a:Int) (b:Int) (c:Int) t = some ((opD key a b c t).1,((opD key a b c t).2,())) ∧ kJ R key (a:Int) (b:Int) (c:Int) t = some ((opD key a b c t).1,((opD key a b c t).2,())) ∧ (opD key a b c t).1.length ≤ t.length:=by
 obtain ⟨h1,h2,h3⟩:=Bk2 (ad:=blk) (t:=t) hk (BM9 a b c) (by decide) ht
 refine ⟨?_,?_,h3⟩
 ·rw [show hM R key (a:Int) (b:Int) (c:Int) t = _ from call (A8F R L key (a:Int) (b:Int) (c:Int) t),(BD5 a b c).1]
  show (AM6 R key (BS4 a b c) blk t).bind _ = _
  rw [h1];rfl
 ·rw [show kJ R key (a:Int) (b:Int) (c:Int) t = _ from call (A4K R L key (a:Int) (b:Int) (c:Int) t),(BD5 a b c).2]
  show (iV R key (BS4 a b c) blk t).bind _ = _
  rw [h2];rfl
def bOK (t:List UInt8):Bool:=pE (pV (po t 7)).2
def bV (t:List UInt8):List DB:=(pV (po t 7)).1
theorem BL7 (t:List UInt8):gN R t = some (bV t,(bOK t,())):=by
 obtain ⟨x,h1,e1⟩:=A6c t 7 (by decide)
 obtain ⟨y,h2,e2⟩:=BS6 2 (by decide) h1
 have e1:mI R t 7 = _:=e1
 have e2:wO R x 2 = _:=e2
 rw [show gN R t = _ from call (At9 R L t),e1]
 simp only [Option.bind_some]
 rw [e2]
 simp only [Option.bind_some]
 rw [BV2 h2];rfl
theorem BP7 (t:List UInt8) (ht:t.length ≤ 1048576):∃ v,iC R t = some (v,(bOK t,())) ∧ (bOK t = true → v = bV t):=by
 obtain ⟨x,h1,e1⟩:=A6B t 7 (by decide) ht
 obtain ⟨y,h2,e2⟩:=A1Z h1 2
 have e1:kG R t 7 = _:=e1
 have loop:∀ (c:Nat) {x:SR} {s:SO1} (acc:List DB),RS x s → acc.length + c ≤ 1000 → ∃ y,RS y (sB c s).2 ∧ vG R L x acc (c:Int) = vG R L y (acc ++ (sB c s).1) 0:=by
  intro c
  induction c with
  | zero=>intro x s acc h _;exact ⟨x,h,by show _ = vG R L x (acc ++ []) 0;rw [List.append_nil];rfl⟩
  | succ c ih=>
   intro x s acc h hc
   obtain ⟨y1,k1,f1⟩:=AG0 h
   obtain ⟨y2,k2,f2⟩:=AG0 k1
   obtain ⟨y3,k3,f3⟩:=AG0 k2
   obtain ⟨z,k4,f4⟩:=ih (acc ++ [(sB1 s).1]) k3 (by rw [List.length_append];simp only [List.length_cons,List.length_nil];omega)
   refine ⟨z,k4,?_⟩
   rw [show vG R L x acc ((c + 1:Nat):Int) = _ from round (by kernel_rfl) (bY R L x acc ((c + 1:Nat):Int)),dT (show (0:Int) < ((c + 1:Nat):Int) by omega),f1,aG (by omega)]
   simp (disch:=omega) only [st,f2,f3]
   refine Eq.trans f4 ?_
   rw [List.append_assoc];rfl
 obtain ⟨n,hn⟩:=Int.eq_ofNat_of_zero_le (BV5 2 (by decide) (so t 7)).1
 have hb2:=(BV5 2 (by decide) (so t 7)).2
 obtain ⟨z,h3,e3⟩:=loop n [] h2 (by simp only [List.length_nil];omega)
 have hV:sV (so t 7) = sB n (sC 2 (so t 7)).2:=by unfold sV;rw [hn];rfl
 have hl:(sV (so t 7)).1.length ≤ 2:=by rw [hV,BH4];omega
 rw [← hV] at h3 e3
 obtain ⟨b1,b2⟩:=A4y (pso t 7)
 refine ⟨(sV (so t 7)).1,?_,fun h=>?_⟩
 ·rw [show iC R t = _ from call (Am9 R L t),e1]
  simp only [Option.bind_some]
  rw [e2]
  simp only [Option.bind_some]
  rw [hn,e3,List.nil_append,show vG R L z (sV (so t 7)).1 0 = _ from round (by kernel_rfl) (bY R L z (sV (so t 7)).1 0),dF (show ¬ (0:Int) < 0 by omega),BT1 h3]
  simp only [cond_false,Option.bind_some]
  rw [Bj6 _ (by omega)]
  unfold bOK
  rw [b1]
  cases sE (sV (so t 7)).2 <;> rfl
 ·unfold bOK at h
  rw [b1] at h
  simp only [Bool.and_eq_true] at h
  exact (b2 h.1 h.2).symm
theorem Bj4 (t:List UInt8):(bV t).length ≤ 2:=by
 unfold bV pV
 rw [A6V]
 have:=(BH7 2 (by decide) (po t 7)).2
 have:=(BH7 2 (by decide) (po t 7)).1
 omega
end Go.Rf.S

end
section
namespace Go.Rf.S
set_option maxRecDepth 100000
def sOK (t:List UInt8):Bool:=pE (pZ (po t 140)).2 && (Ac6 (A9D (po t 140)) && cP (pZ (po t 140)).1)
def sE1 (t:List UInt8):DE:=A9D (po t 140)
def sRs (t:List UInt8):List DR:=(pZ (po t 140)).1
theorem Ae3 (b:Int):∀ (n:Nat) (o:LO),(pS b n o).1.length = n
 | 0,_=>rfl
 | n + 1,o=>by show (_ :: _:List Int).length = _;rw [List.length_cons,Ae3 b n]
theorem A6U:∀ (n:Nat) (o:SO1),(sS n o).1.length = n
 | 0,_=>rfl
 | n + 1,o=>by show (_ :: _:List Int).length = _;rw [List.length_cons,A6U n]
theorem BN2:nob.flatten.length = 0:=rfl
theorem Ae9 (v2:DE) (E:DE) (hk:E.1.length ≤ 1048576) (h1:E.2.1.1.length ≤ 4096) (hf:E.2.1.2.1.length + E.2.1.2.2.1.flatten.length ≤ 1048576) {n:Nat} (hn:n ≤ 1000):∀ (c i:Nat) {x:PR} {o:LO} (acc:List DR),i + c = n → RP x o → acc.length = i → (∀ r ∈ acc,r.2.1.length ≤ 1048576) →
  qD R L v2 x E acc (n:Int) (i:Int) = some (if (pE (pR c o).2 && (Ac6 E && cP (acc ++ (pR c o).1))) = true then (E,(acc ++ (pR c o).1,(true,()))) else (([],(([],([],([],()))),())),([],(false,()))))
 | 0,i,x,o,acc,hi,h,ha,hr=>by
  rw [show qD R L v2 x E acc (n:Int) (i:Int) = _ from round (by kernel_rfl) (AG1 R L v2 x E acc (n:Int) (i:Int)),aC (by omega),BV2 h]
  show _ = some (if (pE o && (Ac6 E && cP (acc ++ []))) = true then (E,(acc ++ [],(true,()))) else _)
  rw [List.append_nil]
  cases he:pE o with
  | false=>rfl
  | true=>
   simp only [cond_false,Option.bind_some,Bool.not_true]
   rw [Bl7 E hk h1 hf]
   cases Ac6 E with
   | false=>rfl
   | true=>
    simp only [cond_false,Option.bind_some,Bool.not_true]
    rw [Bn9]
    cases cP acc <;> rfl
 | c + 1,i,x,o,acc,hi,h,ha,hr=>by
  obtain ⟨y1,k1,e1⟩:=Af7 h 19
  obtain ⟨y2,k2,e2⟩:=Af7 k1 32
  obtain ⟨m,hm⟩:=Int.eq_ofNat_of_zero_le (BH7 32 (by decide) (pN 19 o).2).1
  have hm2:=(BH7 32 (by decide) (pN 19 o).2).2
  obtain ⟨y3,k3,e3⟩:=BY7 (b:=999999) (n:=m) (by omega) k2
  have e1':pR1 o = (((pN 19 o).1,((pS 999999 m (pN 32 (pN 19 o).2).2).1,())),(pS 999999 m (pN 32 (pN 19 o).2).2).2):=by unfold pR1;rw [hm];rfl
  have hl1:(pR1 o).1.2.1.length ≤ 1048576:=by rw [e1'];show (pS 999999 m _).1.length ≤ _;rw [Ae3];omega
  have k3:RP y3 (pR1 o).2:=by rw [e1'];exact k3
  have ih:=Ae9 v2 E hk h1 hf hn c (i + 1) (acc ++ [(pR1 o).1]) (by omega) k3 (by rw [List.length_append,ha];rfl) (fun r hr'=>by
   rcases List.mem_append.1 hr' with h | h
   ·exact hr r h
   ·rw [List.mem_singleton.1 h];exact hl1)
  rw [show qD R L v2 x E acc (n:Int) (i:Int) = _ from round (by kernel_rfl) (AG1 R L v2 x E acc (n:Int) (i:Int)),bL (by omega),e1,zB (by omega)]
  simp only [cond_true,Option.bind_some]
  rw [e2]
  simp only [Option.bind_some]
  rw [hm,e3]
  simp (disch:=omega) only [st]
  have hrec:((pN 19 o).1,((pS 999999 m (pN 32 (pN 19 o).2).2).1,())) = (pR1 o).1:=by rw [e1']
  rw [hrec,ih,List.append_assoc]
  rfl
theorem BY6 (t:List UInt8):eB R t = some (if sOK t = true then (sE1 t,(sRs t,(true,()))) else (([],(([],([],([],()))),())),([],(false,())))):=by
 obtain ⟨x0,h0,e0⟩:=A6c t 140 (by decide)
 obtain ⟨x1,h1,e1⟩:=BY7 (b:=7) (n:=12) (by decide) h0
 obtain ⟨x2,h2,e2⟩:=BS6 12 (by decide) h1
 obtain ⟨x3,h3,e3⟩:=BY7 (b:=9999) (n:=11) (by decide) h2
 obtain ⟨x4,h4,e4⟩:=Af7 h3 2
 obtain ⟨n,hn⟩:=Int.eq_ofNat_of_zero_le (BH7 2 (by decide) (pY (po t 140)).2).1
 have hn2:=(BH7 2 (by decide) (pY (po t 140)).2).2
 have e0:mI R t 140 = _:=e0
 have e1:xL R x0 12 0 7 = some ((pK (po t 140)).1,(x1,())):=e1
 have e2:wO R x1 12 = some ((pT (po t 140)).1,(x2,())):=e2
 have e3:xL R x2 11 0 9999 = some ((pY (po t 140)).1,(x3,())):=e3
 have e4:yP R x3 0 2 = some ((pN 2 (pY (po t 140)).2).1,(x4,())):=e4
 have h4:RP x4 (pN 2 (pY (po t 140)).2).2:=h4
 have hb2:=(BH7 12 (by decide) (pK (po t 140)).2)
 have hTl:(pT (po t 140)).1.length ≤ 12:=by unfold pT;rw [A6V];omega
 rw [show eB R t = _ from call (A0r R L t),e0]
 simp only [Option.bind_some]
 rw [e1]
 simp only [Option.bind_some]
 rw [e2]
 simp only [Option.bind_some]
 rw [e3]
 simp only [Option.bind_some]
 rw [e4]
 simp only [Option.bind_some]
 rw [hn]
 have hl:=Ae9 ([],(([],([],([],()))),())) (A9D (po t 140)) (by show (pS 9999 11 _).1.length ≤ _;rw [Ae3];decide) (by show (pS 7 12 _).1.length ≤ _;rw [Ae3];decide) (by
   show (pT (po t 140)).1.length + nob.flatten.length ≤ _
   rw [BN2];omega) (n:=n) (by omega) n 0 [] (by omega) h4 rfl (fun _ h=>by cases h)
 have hz:pZ (po t 140) = pR n (pN 2 (pY (po t 140)).2).2:=by unfold pZ;rw [hn];rfl
 rw [← hz,List.nil_append] at hl
 exact hl
theorem Ay9 (v2:DE) (E:DE) (O:List DR) (v12:Int):∀ (c:Nat) {x:SR} {s:SO1} (k:Int) (acc:List Int),RS x s → acc.length + c ≤ 1000 → ∃ y,RS y (sS c s).2 ∧ vX R L v2 x E O v12 (k,(acc,())) (c:Int) = vX R L v2 y E O v12 (k,(acc ++ (sS c s).1,())) 0
 | 0,x,s,k,acc,h,_=>⟨x,h,by show _ = vX R L v2 x E O v12 (k,(acc ++ [],())) 0;rw [List.append_nil];rfl⟩
 | c + 1,x,s,k,acc,h,hc=>by
  obtain ⟨y1,k1,f1⟩:=AG0 h
  obtain ⟨z,k4,f4⟩:=Ay9 v2 E O v12 c k (acc ++ [(sN s).1]) k1 (by rw [List.length_append];simp only [List.length_cons,List.length_nil];omega)
  refine ⟨z,k4,?_⟩
  rw [show vX R L v2 x E O v12 (k,(acc,())) ((c + 1:Nat):Int) = _ from round (by kernel_rfl) (AE3 R L v2 x E O v12 (k,(acc,())) ((c + 1:Nat):Int)),dT (show (0:Int) < ((c + 1:Nat):Int) by omega),f1,aG (by omega)]
  simp (disch:=omega) only [st]
  rw [f4,List.append_assoc];rfl
theorem A6G (v2:DE) (E:DE) (hk:E.1.length ≤ 1048576) (h1:E.2.1.1.length ≤ 4096):∀ (c:Nat) {x:SR} {s:SO1} (acc:List DR),RS x s → acc.length + c ≤ 1000 → (∀ r ∈ acc,r.2.1.length ≤ 1048576) →
  tN R L v2 x E acc (c:Int) = some (E,(acc ++ (sR c s).1,(sE (sR c s).2 && (Ac6 E && cP (acc ++ (sR c s).1)),())))
 | 0,x,s,acc,h,_,hr=>by
  show tN R L v2 x E acc ((0:Nat):Int) = some (E,(acc ++ [],(sE s && (Ac6 E && cP (acc ++ [])),())))
  rw [List.append_nil,show tN R L v2 x E acc ((0:Nat):Int) = _ from round (by kernel_rfl) (AD7 R L v2 x E acc ((0:Nat):Int)),dF (show ¬ (0:Int) < ((0:Nat):Int) by omega),BT1 h]
  simp only [cond_false,Option.bind_some]
  cases sE s with
  | false=>rfl
  | true=>
   simp only [cond_true]
   rw [Bi4 E hk h1]
   simp only [Option.bind_some]
   cases Ac6 E with
   | false=>rfl
   | true=>
    simp only [cond_true]
    rw [Bk7 acc (by omega) hr];rfl
 | c + 1,x,s,acc,h,hc,hr=>by
  obtain ⟨y1,k1,f1⟩:=AG0 h
  obtain ⟨y2,k2,f2⟩:=A1Z k1 32
  obtain ⟨m,hm⟩:=Int.eq_ofNat_of_zero_le (BV5 32 (by decide) (sN s).2).1
  have hm2:=(BV5 32 (by decide) (sN s).2).2
  obtain ⟨y3,k3,f3⟩:=Ay9 v2 E acc ((c + 1:Nat):Int) m (sN s).1 [] k2 (by simp only [List.length_nil];omega)
  have e1':sR1 s = (((sN s).1,((sS m (sC 32 (sN s).2).2).1,())),(sS m (sC 32 (sN s).2).2).2):=by unfold sR1;rw [hm];rfl
  have hl1:(sR1 s).1.2.1.length ≤ 1048576:=by rw [e1'];show (sS m _).1.length ≤ _;rw [A6U];omega
  have k3:RS y3 (sR1 s).2:=by rw [e1'];exact k3
  have ih:=A6G v2 E hk h1 c (acc ++ [(sR1 s).1]) k3 (by rw [List.length_append];simp only [List.length_cons,List.length_nil];omega) (fun r hr'=>by
   rcases List.mem_append.1 hr' with h | h
   ·exact hr r h
   ·rw [List.mem_singleton.1 h];exact hl1)
  rw [show tN R L v2 x E acc ((c + 1:Nat):Int) = _ from round (by kernel_rfl) (AD7 R L v2 x E acc ((c + 1:Nat):Int)),dT (show (0:Int) < ((c + 1:Nat):Int) by omega),f1]
  simp only [cond_true,Option.bind_some]
  rw [f2]
  simp only [Option.bind_some]
  rw [hm,f3,List.nil_append]
  have hrec:((sN s).1,((sS m (sC 32 (sN s).2).2).1,())) = (sR1 s).1:=by rw [e1']
  rw [hrec,show vX R L v2 y3 E acc ((c + 1:Nat):Int) (sR1 s).1 0 = _ from round (by kernel_rfl) (AE3 R L v2 y3 E acc ((c + 1:Nat):Int) (sR1 s).1 0),dF (show ¬ (0:Int) < 0 by omega),aG (by omega)]
  simp (disch:=omega) only [st]
  rw [ih,List.append_assoc];rfl
theorem A6j (v2:DE):∀ (c i:Nat) {x:SR} {s:SO1} (E:DE),i + c = 11 → RS x s → E.1.length = i → ∃ y,RS y (sS c s).2 ∧ yO R L v2 x E (i:Int) = yO R L v2 y (E.1 ++ (sS c s).1,E.2) 11
 | 0,i,x,s,E,hi,h,hE=>by
  have:i = 11:=by omega
  subst this
  exact ⟨x,h,by show _ = yO R L v2 x (E.1 ++ [],E.2) 11;rw [List.append_nil];rfl⟩
 | c + 1,i,x,s,E,hi,h,hE=>by
  obtain ⟨y1,k1,f1⟩:=AG0 h
  obtain ⟨z,k4,f4⟩:=A6j v2 c (i + 1) (E.1 ++ [(sN s).1],E.2) (by omega) k1 (by show (E.1 ++ [(sN s).1]).length = _;rw [List.length_append,hE];rfl)
  refine ⟨z,k4,?_⟩
  rw [show yO R L v2 x E (i:Int) = _ from round (by kernel_rfl) (AE4 R L v2 x E (i:Int)),dT (show (i:Int) < 11 by omega),f1,zB (by omega)]
  simp (disch:=omega) only [st]
  rw [f4,List.append_assoc];rfl
theorem A6r (v2:DE):∀ (c:Nat) {x:SR} {s:SO1} (E:DE),RS x s → E.2.1.2.1.length + c ≤ 1000 → ∃ y,RS y (sB c s).2 ∧ uB R L v2 x E (c:Int) = yO R L v2 y (E.1,((E.2.1.1,(E.2.1.2.1 ++ (sB c s).1,E.2.1.2.2)),E.2.2)) 0
 | 0,x,s,E,h,_=>by
  refine ⟨x,h,?_⟩
  show uB R L v2 x E ((0:Nat):Int) = yO R L v2 x (E.1,((E.2.1.1,(E.2.1.2.1 ++ [],E.2.1.2.2)),E.2.2)) 0
  rw [List.append_nil,show uB R L v2 x E ((0:Nat):Int) = _ from round (by kernel_rfl) (AD6 R L v2 x E ((0:Nat):Int)),dF (show ¬ (0:Int) < ((0:Nat):Int) by omega)];rfl
 | c + 1,x,s,E,h,hc=>by
  obtain ⟨y1,k1,f1⟩:=AG0 h
  obtain ⟨y2,k2,f2⟩:=AG0 k1
  obtain ⟨y3,k3,f3⟩:=AG0 k2
  obtain ⟨z,k4,f4⟩:=A6r v2 c (E.1,((E.2.1.1,(E.2.1.2.1 ++ [(sB1 s).1],E.2.1.2.2)),E.2.2)) k3 (by show (E.2.1.2.1 ++ [(sB1 s).1]).length + c ≤ _;rw [List.length_append];simp only [List.length_cons,List.length_nil];omega)
  refine ⟨z,k4,?_⟩
  rw [show uB R L v2 x E ((c + 1:Nat):Int) = _ from round (by kernel_rfl) (AD6 R L v2 x E ((c + 1:Nat):Int)),dT (show (0:Int) < ((c + 1:Nat):Int) by omega),f1,aG (by omega)]
  simp only [cond_true,Option.bind_some]
  rw [f2]
  simp only [Option.bind_some]
  rw [f3]
  simp (disch:=omega) only [st]
  refine Eq.trans f4 ?_
  show yO R L v2 z (E.1,((E.2.1.1,((E.2.1.2.1 ++ [(sB1 s).1]) ++ (sB c _).1,E.2.1.2.2)),E.2.2)) 0 = _
  rw [List.append_assoc];rfl
theorem A5m (v2:DE):∀ (c i:Nat) {x:SR} {s:SO1} (E:DE),i + c = 12 → RS x s → E.2.1.1.length = i → ∃ y,RS y (sS c s).2 ∧ wF R L v2 x E (i:Int) = wF R L v2 y (E.1,((E.2.1.1 ++ (sS c s).1,E.2.1.2),E.2.2)) 12
 | 0,i,x,s,E,hi,h,hE=>by
  have:i = 12:=by omega
  subst this
  exact ⟨x,h,by show _ = wF R L v2 x (E.1,((E.2.1.1 ++ [],E.2.1.2),E.2.2)) 12;rw [List.append_nil];rfl⟩
 | c + 1,i,x,s,E,hi,h,hE=>by
  obtain ⟨y1,k1,f1⟩:=AG0 h
  obtain ⟨z,k4,f4⟩:=A5m v2 c (i + 1) (E.1,((E.2.1.1 ++ [(sN s).1],E.2.1.2),E.2.2)) (by omega) k1 (by show (E.2.1.1 ++ [(sN s).1]).length = _;rw [List.length_append,hE];rfl)
  refine ⟨z,k4,?_⟩
  rw [show wF R L v2 x E (i:Int) = _ from round (by kernel_rfl) (AE0 R L v2 x E (i:Int)),dT (show (i:Int) < 12 by omega),f1,zB (by omega)]
  simp (disch:=omega) only [st]
  refine Eq.trans f4 ?_
  show wF R L v2 z (E.1,(((E.2.1.1 ++ [(sN s).1]) ++ (sS c _).1,E.2.1.2),E.2.2)) 12 = _
  rw [List.append_assoc];rfl
theorem Bt0:AL0 R [] = some (([],([],(nob,()))),()):=by
 rw [show AL0 R [] = _ from call (A7z R L [])]
 rfl
theorem Bb7 (t:List UInt8) (ht:t.length ≤ 1048576):∃ e rs,gF R t = some (e,(rs,(sOK t,()))) ∧ (sOK t = true → e = sE1 t ∧ rs = sRs t):=by
 obtain ⟨x0,h0,f0⟩:=A6B t 140 (by decide) ht
 have f0:kG R t 140 = _:=f0
 obtain ⟨x1,h1,f1⟩:=A5m ([],(([],([],([],()))),())) 12 0 ([],(([],([],(nob,()))),())) (by omega) h0 rfl
 have f1:wF R L ([],(([],([],([],()))),())) x0 ([],(([],([],(nob,()))),())) 0 = _:=f1
 obtain ⟨x2,h2,f2⟩:=A1Z h1 12
 have f2:yR R x1 12 = some ((sC 12 (sK (so t 140)).2).1,(x2,())):=f2
 obtain ⟨n1,hn1⟩:=Int.eq_ofNat_of_zero_le (BV5 12 (by decide) (sK (so t 140)).2).1
 have hn1b:=(BV5 12 (by decide) (sK (so t 140)).2).2
 obtain ⟨x3,h3,f3⟩:=A6r ([],(([],([],([],()))),())) n1 ([],(((sK (so t 140)).1,([],(nob,()))),())) h2 (by show 0 + n1 ≤ _;omega)
 have hT:sT (so t 140) = sB n1 (sC 12 (sK (so t 140)).2).2:=by unfold sT;rw [hn1];rfl
 have h3:RS x3 (sT (so t 140)).2:=by rw [hT];exact h3
 have f3:uB R L ([],(([],([],([],()))),())) x2 ([],(((sK (so t 140)).1,([],(nob,()))),())) (n1:Int) = yO R L ([],(([],([],([],()))),())) x3 ([],(((sK (so t 140)).1,((sT (so t 140)).1,(nob,()))),())) 0:=by rw [hT];exact f3
 obtain ⟨x4,h4,f4⟩:=A6j ([],(([],([],([],()))),())) 11 0 ([],(((sK (so t 140)).1,((sT (so t 140)).1,(nob,()))),())) (by omega) h3 rfl
 have f4:yO R L ([],(([],([],([],()))),())) x3 ([],(((sK (so t 140)).1,((sT (so t 140)).1,(nob,()))),())) 0 = yO R L ([],(([],([],([],()))),())) x4 (Av9 (so t 140)) 11:=f4
 obtain ⟨x5,h5,f5⟩:=A1Z h4 2
 have f5:yR R x4 2 = some ((sC 2 (sY (so t 140)).2).1,(x5,())):=f5
 have h5:RS x5 (sC 2 (sY (so t 140)).2).2:=h5
 obtain ⟨n2,hn2⟩:=Int.eq_ofNat_of_zero_le (BV5 2 (by decide) (sY (so t 140)).2).1
 have hn2b:=(BV5 2 (by decide) (sY (so t 140)).2).2
 have hY:(Av9 (so t 140)).1.length = 11:=A6U 11 _
 have hK:(Av9 (so t 140)).2.1.1.length = 12:=A6U 12 _
 have f6:=A6G ([],(([],([],([],()))),())) (Av9 (so t 140)) (by rw [hY];decide) (by rw [hK];decide) n2 [] h5 (by show 0 + n2 ≤ _;omega) (fun _ h=>by cases h)
 have hZ:sZ (so t 140) = sR n2 (sC 2 (sY (so t 140)).2).2:=by unfold sZ;rw [hn2];rfl
 rw [← hZ,List.nil_append] at f6
 obtain ⟨b1,b2⟩:=A7e BO9 Ba6 (pso t 140)
 refine ⟨Av9 (so t 140),(sZ (so t 140)).1,?_,fun h=>?_⟩
 ·rw [show gF R t = _ from call (Aw2 R L t),f0,Bt0]
  simp only [Option.bind_some]
  rw [f1,show wF R L ([],(([],([],([],()))),())) x1 (([]:List Int),(([] ++ (sS 12 (so t 140)).1,(([]:List DB),(nob,()))),())) 12 = _ from round (by kernel_rfl) (AE0 R L _ x1 _ 12),dF (show ¬ (12:Int) < 12 by omega),f2]
  simp only [cond_false,Option.bind_some]
  rw [hn1]
  refine Eq.trans f3 ?_
  rw [f4,show yO R L ([],(([],([],([],()))),())) x4 (Av9 (so t 140)) 11 = _ from round (by kernel_rfl) (AE4 R L _ x4 _ 11),dF (show ¬ (11:Int) < 11 by omega),f5]
  simp only [cond_false,Option.bind_some]
  rw [hn2,f6]
  unfold sOK
  rw [b1]
 ·unfold sOK at h
  rw [b1] at h
  simp only [Bool.and_eq_true] at h
  obtain ⟨c1,c2⟩:=b2 h.1 h.2.1 h.2.2
  exact ⟨c1.symm,c2.symm⟩
end Go.Rf.S

end
