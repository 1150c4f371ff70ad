/- What the program computes, in plain words: part 6. No condition. -/
import Derived.Test.YtcikhcfofnlegaaGreatRec2
import Derived.Test.YtcikhcfofnlegaaGreatRec1
set_option linter.unusedVariables false
set_option linter.unusedSimpArgs false
section
namespace Go.Rf.S
set_option maxRecDepth 100000
theorem A5Z (v n:Nat) (hn:n ≤ 8):sW R L (v:Int) (cl []) (n:Int) 0 = some (ub (lit v n),()) ∧ (lit v n).length = n:=
 yJ (fun (o:List Nat) i=>sW R L (v:Int) (cl o) (n:Int) i) (stL v) (fun i o=>o.length = i) n (fun o=>some (ub o,()))
  (fun o _=>by
   have hq:sW R L (v:Int) (cl o) (n:Int) (n:Nat) = _:=round (by kernel_rfl) (Ae4 R L (v:Int) (cl o) (n:Int) (n:Nat))
   show sW R L (v:Int) (cl o) (n:Int) (n:Nat) = _
   rw [hq,decide_eq_false (show ¬ ((n:Int) < (n:Int)) by omega),Ap5];rfl)
  (fun o i hi ho=>by
   have hq:sW R L (v:Int) (cl o) (n:Int) (i:Nat) = _:=round (by kernel_rfl) (Ae4 R L (v:Int) (cl o) (n:Int) (i:Nat))
   refine ⟨?_,by unfold stL;rw [List.length_append,ho];rfl⟩
   show sW R L (v:Int) (cl o) (n:Int) (i:Nat) = _
   have e8:IntKind.wrap .i64 ((8:Int) * (i:Int)) = ((8 * i:Nat):Int):=by rw [zH (by omega) (by omega)];omega
   rw [hq,decide_eq_true (show (i:Int) < (n:Int) by omega),e8,decide_eq_false (show ¬ (((8 * i:Nat):Int) < 0) by omega),tn,show Min.min (8 * i) (IntKind.bits .i64) = 8 * i from Nat.min_eq_left (by simp only [IntKind.bits];omega),jQ,sJ,
    vR (by rw [gM];simp only [List.length_cons,List.length_nil];omega),zB (by omega)]
   simp only [cond_true,cond_false]
   rw [show [((v / 2 ^ (8 * i) % 256:Nat):Int)] = cl [v / 2 ^ (8 * i) % 256] from rfl,AW8]
   rfl)
  [] rfl
theorem AJ6 (v n:Nat) (hn:n ≤ 8):vE R (v:Int) (n:Int) = some (ub (lit v n),()):=by
 have hq:vE R (v:Int) (n:Int) = _:=call (A7G R L (v:Int) (n:Int))
 exact hq.trans (A5Z v n hn).1
theorem cW (v n:Nat) (hn:n ≤ 8):(lit v n).length = n:=(A5Z v n hn).2
theorem Aa1 {a b:List UInt8} {i:Nat} (h:i < a.length):bt (a ++ b) i = bt a i:=by
 unfold bt;rw [List.getD_eq_getElem?_getD,List.getD_eq_getElem?_getD,List.getElem?_append_left h]
theorem Ab8 {a b:List UInt8} {i:Nat} (h:a.length ≤ i):bt (a ++ b) i = bt b (i - a.length):=by
 unfold bt;rw [List.getD_eq_getElem?_getD,List.getD_eq_getElem?_getD,List.getElem?_append_right h]
theorem AL9 {a b:List UInt8} {i:Nat} (h:i + 3 < a.length):wLE (a ++ b) i = wLE a i:=by
 unfold wLE;rw [Aa1 (by omega),Aa1 (by omega),Aa1 (by omega),Aa1 (by omega)]
theorem A1I {a b:List UInt8} {i j:Nat} (h:i = a.length + j):wLE (a ++ b) i = wLE b j:=by
 unfold wLE;rw [Ab8 (by omega),Ab8 (by omega),Ab8 (by omega),Ab8 (by omega),show i - a.length = j by omega,show i + 1 - a.length = j + 1 by omega,show i + 2 - a.length = j + 2 by omega,show i + 3 - a.length = j + 3 by omega]
theorem A6c {t:List UInt8} {i:Nat}:wLE (t.drop i) 0 = wLE t i:=by
 have:∀ j,bt (t.drop i) j = bt t (i + j):=fun j=>by unfold bt;rw [List.getD_eq_getElem?_getD,List.getD_eq_getElem?_getD,List.getElem?_drop]
 unfold wLE
 rw [this,this,this,this]
 simp only [Nat.add_zero,Nat.zero_add]
theorem A91 {a b n:Nat} (h:a < 2 ^ n):a ||| b * 2 ^ n = a + b * 2 ^ n:=by
 rw [Nat.or_comm,Nat.mul_comm b,← Nat.two_pow_add_eq_or_of_lt h,Nat.add_comm]
theorem Bc1 (v:Nat) (hv:v < 4294967296):wLE (ub (lit v 4)) 0 = v:=by
 have e:ub (lit v 4) = [UInt8.ofNat (v / 2 ^ 0 % 256),UInt8.ofNat (v / 2 ^ 8 % 256),UInt8.ofNat (v / 2 ^ 16 % 256),UInt8.ofNat (v / 2 ^ 24 % 256)]:=rfl
 have b:∀ n:Nat,(UInt8.ofNat (n % 256)).toNat = n % 256:=fun n=>by
  rw [UInt8.toNat_ofNat'];exact Nat.mod_mod _ _
 rw [e]
 unfold wLE bt
 show (UInt8.ofNat (v / 2 ^ 0 % 256)).toNat ||| (UInt8.ofNat (v / 2 ^ 8 % 256)).toNat * 2 ^ 8 ||| (UInt8.ofNat (v / 2 ^ 16 % 256)).toNat * 2 ^ 16 ||| (UInt8.ofNat (v / 2 ^ 24 % 256)).toNat * 2 ^ 24 = v
 rw [b,b,b,b,A91 (n:=8) (by omega),A91 (n:=16) (by omega),A91 (n:=24) (by omega)]
 omega
theorem Bg5 (key nonce:List UInt8) (count:Nat) (hc:count < 4294967296):Wd 16 (chI key nonce count):=⟨rfl,fun x hx=>by
 unfold chI at hx
 simp only [List.mem_cons,List.not_mem_nil,or_false] at hx
 rcases hx with rfl | rfl | rfl | rfl | rfl | rfl | rfl | rfl | rfl | rfl | rfl | rfl | rfl | rfl | rfl | rfl <;> first | exact BT7 _ _ | exact hc⟩
theorem Bb0 (key nonce:List UInt8) (count:Int) (y:List Nat):
  uS R L key nonce count (cl y) 0 = wP R L key nonce count (cl (wJ (fun i y=>y.set i (wLE exC (4 * i))) 4 0 y)) 0:=
 (yJ (fun (y:List Nat) i=>uS R L key nonce count (cl y) i) (fun i y=>y.set i (wLE exC (4 * i))) (fun _ _=>True) 4 (fun y=>wP R L key nonce count (cl y) 0)
  (fun y _=>by
   have hq:uS R L key nonce count (cl y) (4:Nat) = _:=round (by kernel_rfl) (AP4 R L key nonce count (cl y) (4:Nat))
   show uS R L key nonce count (cl y) (4:Nat) = _
   rw [hq];rfl)
  (fun y i hi _=>by
   have hq:uS R L key nonce count (cl y) (i:Nat) = _:=round (by kernel_rfl) (AP4 R L key nonce count (cl y) (i:Nat))
   refine ⟨?_,trivial⟩
   show uS R L key nonce count (cl y) (i:Nat) = _
   have e4:IntKind.wrap .i64 ((4:Int) * (i:Int)) = ((4 * i:Nat):Int):=by rw [zH (by omega) (by omega)];omega
   rw [hq,show decide ((i:Int) < 4) = true from decide_eq_true (by omega),e4,show nV R [101,120,112,97,110,100,32,51,50,45,98,121,116,101,32,107] ((4 * i:Nat):Int) = some (((wLE exC (4 * i):Nat):Int),()) from A0q exC (4 * i) (by show 4 * i + 3 < 16;omega) (by omega),zB (by omega)]
   simp only [nn,tn,cond_true,Option.bind_some]
   rw [yB (show i < 16 by omega),tI]
   rfl)
  y trivial).1
theorem BV8 (key nonce:List UInt8) (hk:key.length = 32) (count:Nat) (y:List Nat):
  wP R L key nonce (count:Int) (cl y) 0 = wO R L nonce (cl ((wJ (fun i y=>y.set (4 + i) (wLE key (4 * i))) 8 0 y).set 12 count)) 0:=
 (yJ (fun (y:List Nat) i=>wP R L key nonce (count:Int) (cl y) i) (fun i y=>y.set (4 + i) (wLE key (4 * i))) (fun _ _=>True) 8 (fun y=>wO R L nonce (cl (y.set 12 count)) 0)
  (fun y _=>by
   have hq:wP R L key nonce (count:Int) (cl y) (8:Nat) = _:=round (by kernel_rfl) (AN3 R L key nonce (count:Int) (cl y) (8:Nat))
   show wP R L key nonce (count:Int) (cl y) (8:Nat) = _
   rw [hq,tI];rfl)
  (fun y i hi _=>by
   have hq:wP R L key nonce (count:Int) (cl y) (i:Nat) = _:=round (by kernel_rfl) (AN3 R L key nonce (count:Int) (cl y) (i:Nat))
   refine ⟨?_,trivial⟩
   show wP R L key nonce (count:Int) (cl y) (i:Nat) = _
   have e4:IntKind.wrap .i64 ((4:Int) * (i:Int)) = ((4 * i:Nat):Int):=by rw [zH (by omega) (by omega)];omega
   have e5:IntKind.wrap .i64 ((4:Int) + (i:Int)) = ((4 + i:Nat):Int):=by rw [zH (by omega) (by omega)];omega
   rw [hq,show decide ((i:Int) < 8) = true from decide_eq_true (by omega),e4,e5,A0q key (4 * i) (by omega) (by omega),zB (by omega)]
   simp only [nn,tn,cond_true,Option.bind_some]
   rw [yB (show 4 + i < 16 by omega),tI]
   rfl)
  y trivial).1
theorem Ba3 (nonce:List UInt8) (hk:nonce.length = 12) (y:List Nat):
  wO R L nonce (cl y) 0 = xC R L (cl (wJ (fun i y=>y.set (13 + i) (wLE nonce (4 * i))) 3 0 y)) (cl (wJ (fun i y=>y.set (13 + i) (wLE nonce (4 * i))) 3 0 y)) 0:=
 (yJ (fun (y:List Nat) i=>wO R L nonce (cl y) i) (fun i y=>y.set (13 + i) (wLE nonce (4 * i))) (fun _ _=>True) 3 (fun y=>xC R L (cl y) (cl y) 0)
  (fun y _=>by
   have hq:wO R L nonce (cl y) (3:Nat) = _:=round (by kernel_rfl) (AP3 R L nonce (cl y) (3:Nat))
   show wO R L nonce (cl y) (3:Nat) = _
   rw [hq];rfl)
  (fun y i hi _=>by
   have hq:wO R L nonce (cl y) (i:Nat) = _:=round (by kernel_rfl) (AP3 R L nonce (cl y) (i:Nat))
   refine ⟨?_,trivial⟩
   show wO R L nonce (cl y) (i:Nat) = _
   have e4:IntKind.wrap .i64 ((4:Int) * (i:Int)) = ((4 * i:Nat):Int):=by rw [zH (by omega) (by omega)];omega
   have e5:IntKind.wrap .i64 ((13:Int) + (i:Int)) = ((13 + i:Nat):Int):=by rw [zH (by omega) (by omega)];omega
   rw [hq,show decide ((i:Int) < 3) = true from decide_eq_true (by omega),e4,e5,A0q nonce (4 * i) (by omega) (by omega),zB (by omega)]
   simp only [nn,tn,cond_true,Option.bind_some]
   rw [yB (show 13 + i < 16 by omega),tI]
   rfl)
  y trivial).1
theorem Bl3 (key nonce:List UInt8) (hk:key.length = 32) (hn:nonce.length = 12) (count:Nat):
  pU R key nonce (count:Int) = xC R L (cl (chI key nonce count)) (cl (chI key nonce count)) 0:=by
 have hq:pU R key nonce (count:Int) = _:=call (A29 R L key nonce (count:Int))
 refine hq.trans ((Bb0 key nonce (count:Int) (List.replicate 16 0)).trans ((BV8 key nonce hk count _).trans ((Ba3 nonce hn _).trans ?_)))
 rfl
theorem Bd1 {k:Nat} {y:List Nat} (h:Wd 16 y):Wd 16 (rk k y):=Bb9 (Bb9 (Bb9 (Bb9 h)))
theorem BK5 (v7:List Int) (y:List Nat) (hy:Wd 16 y) (v12:Int):
  uI R L v7 (cl y) v12 0 = wQ R L v7 (cl (rk 0 y)) v12 0:=
 (yJ (fun (y:List Nat) i=>uI R L v7 (cl y) v12 i) (fun i y=>qs i (4 + (i + 0) % 4) (8 + (i + 2 * 0) % 4) (12 + (i + 3 * 0) % 4) y) (fun _ y=>Wd 16 y) 4 (fun y=>wQ R L v7 (cl y) v12 0)
  (fun y _=>by
   have hq:uI R L v7 (cl y) v12 (4:Nat) = _:=round (by kernel_rfl) (AM8 R L v7 (cl y) v12 (4:Nat))
   show uI R L v7 (cl y) v12 (4:Nat) = _
   rw [hq];rfl)
  (fun y i hi hy=>by
   have hq:uI R L v7 (cl y) v12 (i:Nat) = _:=round (by kernel_rfl) (AM8 R L v7 (cl y) v12 (i:Nat))
   refine ⟨?_,Bb9 hy⟩
   show uI R L v7 (cl y) v12 (i:Nat) = _
   have e4:IntKind.wrap .i64 ((4:Int) + (i:Int)) = ((4 + (i + 0) % 4:Nat):Int):=by rw [zH (by omega) (by omega)];omega
   have e8:IntKind.wrap .i64 ((8:Int) + (i:Int)) = ((8 + (i + 2 * 0) % 4:Nat):Int):=by rw [zH (by omega) (by omega)];omega
   have e12:IntKind.wrap .i64 ((12:Int) + (i:Int)) = ((12 + (i + 3 * 0) % 4:Nat):Int):=by rw [zH (by omega) (by omega)];omega
   rw [hq,show decide ((i:Int) < 4) = true from decide_eq_true (by omega),e4,e8,e12,A97 y hy _ _ _ _ (by omega) (by omega) (by omega) (by omega),zB (by omega)]
   rfl)
  y hy).1
theorem tm4 (a:Nat):Int.tmod (a:Int) 4 = ((a % 4:Nat):Int):=BB4 a 4
theorem BM2 (v7:List Int) (y:List Nat) (hy:Wd 16 y) (v12:Int):
  wQ R L v7 (cl y) v12 0 = xC R L v7 (cl (rk 1 y)) (IntKind.wrap .i64 (v12 + 1)):=
 (yJ (fun (y:List Nat) i=>wQ R L v7 (cl y) v12 i) (fun i y=>qs i (4 + (i + 1) % 4) (8 + (i + 2 * 1) % 4) (12 + (i + 3 * 1) % 4) y) (fun _ y=>Wd 16 y) 4 (fun y=>xC R L v7 (cl y) (IntKind.wrap .i64 (v12 + 1)))
  (fun y _=>by
   have hq:wQ R L v7 (cl y) v12 (4:Nat) = _:=round (by kernel_rfl) (AP7 R L v7 (cl y) v12 (4:Nat))
   show wQ R L v7 (cl y) v12 (4:Nat) = _
   rw [hq];rfl)
  (fun y i hi hy=>by
   have hq:wQ R L v7 (cl y) v12 (i:Nat) = _:=round (by kernel_rfl) (AP7 R L v7 (cl y) v12 (i:Nat))
   refine ⟨?_,Bb9 hy⟩
   show wQ R L v7 (cl y) v12 (i:Nat) = _
   have f1:IntKind.wrap .i64 ((i:Int) + 1) = ((i + 1:Nat):Int):=zB (by omega)
   have f2:IntKind.wrap .i64 ((i:Int) + 2) = ((i + 2 * 1:Nat):Int):=Ao3 2 (by omega)
   have f3:IntKind.wrap .i64 ((i:Int) + 3) = ((i + 3 * 1:Nat):Int):=Ao3 3 (by omega)
   have e4:IntKind.wrap .i64 ((4:Int) + (((i + 1) % 4:Nat):Int)) = ((4 + (i + 1) % 4:Nat):Int):=by rw [zH (by omega) (by omega)];omega
   have e8:IntKind.wrap .i64 ((8:Int) + (((i + 2 * 1) % 4:Nat):Int)) = ((8 + (i + 2 * 1) % 4:Nat):Int):=by rw [zH (by omega) (by omega)];omega
   have e12:IntKind.wrap .i64 ((12:Int) + (((i + 3 * 1) % 4:Nat):Int)) = ((12 + (i + 3 * 1) % 4:Nat):Int):=by rw [zH (by omega) (by omega)];omega
   rw [hq,show decide ((i:Int) < 4) = true from decide_eq_true (by omega),f1,f2,f3,tm4,tm4,tm4,e4,e8,e12,A97 y hy _ _ _ _ (by omega) (by omega) (by omega) (by omega)]
   rfl)
  y hy).1
theorem A4v (v7:List Int) (y:List Nat) (hy:Wd 16 y):
  xC R L v7 (cl y) 0 = wN R L v7 (cl (r10 y)) (cl []) 0 ∧ Wd 16 (r10 y):=
 yJ (fun (y:List Nat) i=>xC R L v7 (cl y) i) (fun _ y=>rk 1 (rk 0 y)) (fun _ y=>Wd 16 y) 10 (fun y=>wN R L v7 (cl y) (cl []) 0)
  (fun y _=>by
   have hq:xC R L v7 (cl y) (10:Nat) = _:=round (by kernel_rfl) (AN2 R L v7 (cl y) (10:Nat))
   show xC R L v7 (cl y) (10:Nat) = _
   rw [hq];rfl)
  (fun y i hi hy=>by
   have hq:xC R L v7 (cl y) (i:Nat) = _:=round (by kernel_rfl) (AN2 R L v7 (cl y) (i:Nat))
   refine ⟨?_,Bd1 (Bd1 hy)⟩
   show xC R L v7 (cl y) (i:Nat) = _
   rw [hq,show decide ((i:Int) < 10) = true from decide_eq_true (by omega)]
   simp only [cond_true]
   rw [BK5 v7 y hy,BM2 v7 _ (Bd1 hy),zB (by omega)])
  y hy
end Go.Rf.S

end
section
namespace Go.Rf.S
set_option maxRecDepth 100000
theorem A8H (v8:List Int) (k:Nat) (hk:k < 2) (v41:Int) (y:List Nat) (hy:Wd 16 y):
  rB R L v8 (cl y) (k:Int) v41 (k:Int) 0 = mT R L v8 (cl (rk k y)) v41 ((k + 1:Nat):Int):=
 (yJ (fun (y:List Nat) i=>rB R L v8 (cl y) (k:Int) v41 (k:Int) i) (fun i y=>qs i (4 + (i + k) % 4) (8 + (i + 2 * k) % 4) (12 + (i + 3 * k) % 4) y) (fun _ y=>Wd 16 y) 4 (fun y=>mT R L v8 (cl y) v41 ((k + 1:Nat):Int))
  (fun y _=>by
   have hq:rB R L v8 (cl y) (k:Int) v41 (k:Int) (4:Nat) = _:=round (by kernel_rfl) (Ag0 R L v8 (cl y) (k:Int) v41 (k:Int) (4:Nat))
   show rB R L v8 (cl y) (k:Int) v41 (k:Int) (4:Nat) = _
   rw [hq,show decide (((4:Nat):Int) < 4) = false from by decide]
   simp only [cond_false]
   rw [zB (i:=k) (by omega)])
  (fun y i hi hy=>by
   have hq:rB R L v8 (cl y) (k:Int) v41 (k:Int) (i:Nat) = _:=round (by kernel_rfl) (Ag0 R L v8 (cl y) (k:Int) v41 (k:Int) (i:Nat))
   refine ⟨?_,Bb9 hy⟩
   show rB R L v8 (cl y) (k:Int) v41 (k:Int) (i:Nat) = _
   have f1:IntKind.wrap .i64 ((i:Int) + (k:Int)) = ((i + k:Nat):Int):=Ar4 (by simp only [sF];omega)
   have g2:IntKind.wrap .i64 ((2:Int) * (k:Int)) = ((2 * k:Nat):Int):=by rw [zH (by omega) (by omega)];omega
   have g3:IntKind.wrap .i64 ((3:Int) * (k:Int)) = ((3 * k:Nat):Int):=by rw [zH (by omega) (by omega)];omega
   have f2:IntKind.wrap .i64 ((i:Int) + ((2 * k:Nat):Int)) = ((i + 2 * k:Nat):Int):=Ar4 (by simp only [sF];omega)
   have f3:IntKind.wrap .i64 ((i:Int) + ((3 * k:Nat):Int)) = ((i + 3 * k:Nat):Int):=Ar4 (by simp only [sF];omega)
   have e4:IntKind.wrap .i64 ((4:Int) + (((i + k) % 4:Nat):Int)) = ((4 + (i + k) % 4:Nat):Int):=by rw [zH (by omega) (by omega)];omega
   have e8:IntKind.wrap .i64 ((8:Int) + (((i + 2 * k) % 4:Nat):Int)) = ((8 + (i + 2 * k) % 4:Nat):Int):=by rw [zH (by omega) (by omega)];omega
   have e12:IntKind.wrap .i64 ((12:Int) + (((i + 3 * k) % 4:Nat):Int)) = ((12 + (i + 3 * k) % 4:Nat):Int):=by rw [zH (by omega) (by omega)];omega
   rw [hq,show decide ((i:Int) < 4) = true from decide_eq_true (by omega),g2,g3,f1,f2,f3,tm4,tm4,tm4,e4,e8,e12,zB (by omega)]
   simp only [nn,tn,cond_true,yB (show i < 16 by omega),yB (show 4 + (i + k) % 4 < 16 by omega),yB (show 8 + (i + 2 * k) % 4 < 16 by omega),yB (show 12 + (i + 3 * k) % 4 < 16 by omega),yG]
   rw [A8X _ _ _ _ (hy.g _) (hy.g _) (hy.g _) (hy.g _)]
   simp only [Option.bind_some,tI]
   rfl)
  y hy).1
theorem A4w (v8:List Int) (y:List Nat) (hy:Wd 16 y):
  uH R L v8 (cl y) 0 = uR R L v8 (cl (r10 y)) [] 0 ∧ Wd 16 (r10 y):=
 yJ (fun (y:List Nat) i=>uH R L v8 (cl y) i) (fun _ y=>rk 1 (rk 0 y)) (fun _ y=>Wd 16 y) 10 (fun y=>uR R L v8 (cl y) [] 0)
  (fun y _=>by
   have hq:uH R L v8 (cl y) (10:Nat) = _:=round (by kernel_rfl) (Ad5 R L v8 (cl y) (10:Nat))
   show uH R L v8 (cl y) (10:Nat) = _
   rw [hq];rfl)
  (fun y i hi hy=>by
   have hq:uH R L v8 (cl y) (i:Nat) = _:=round (by kernel_rfl) (Ad5 R L v8 (cl y) (i:Nat))
   refine ⟨?_,Bd1 (Bd1 hy)⟩
   show uH R L v8 (cl y) (i:Nat) = _
   have q2:∀ (y:List Int) (v:Int) (w:Int),mT R L v8 y v w = _:=fun y v w=>round (by kernel_rfl) (A27 R L v8 y v w)
   have e0:=A8H v8 0 (by decide) (i:Int) y hy
   have e1:=A8H v8 1 (by decide) (i:Int) _ (Bd1 (k:=0) hy)
   rw [hq,show decide ((i:Int) < 10) = true from decide_eq_true (by omega)]
   simp only [cond_true]
   rw [q2,show decide ((0:Int) < 2) = true from by decide]
   simp only [cond_true]
   refine Eq.trans e0 ?_
   rw [q2,show decide (((0 + 1:Nat):Int) < 2) = true from by decide]
   simp only [cond_true]
   refine Eq.trans e1 ?_
   rw [q2,show decide (((1 + 1:Nat):Int) < 2) = false from by decide,zB (by omega)]
   rfl)
  y hy
theorem A7p (x y:List Nat) (hx:Wd 16 x) (hy:Wd 16 y):
  uR R L (cl x) (cl y) (ub []) 0 = some (ub (wJ (stF x y) 16 0 []),()) ∧ (wJ (stF x y) 16 0 []).length = 4 * 16:=
 yJ (fun (o:List Nat) i=>uR R L (cl x) (cl y) (ub o) i) (stF x y) (fun i o=>o.length = 4 * i) 16 (fun o=>some (ub o,()))
  (fun o _=>by
   have hq:uR R L (cl x) (cl y) (ub o) (16:Nat) = _:=round (by kernel_rfl) (Ac6 R L (cl x) (cl y) (ub o) (16:Nat))
   show uR R L (cl x) (cl y) (ub o) (16:Nat) = _
   rw [hq];rfl)
  (fun o i hi ho=>by
   have hq:uR R L (cl x) (cl y) (ub o) (i:Nat) = _:=round (by kernel_rfl) (Ac6 R L (cl x) (cl y) (ub o) (i:Nat))
   have hl:=cW ((y.getD i 0 + x.getD i 0) % 4294967296) 4 (by decide)
   refine ⟨?_,by unfold stF;rw [List.length_append,ho,hl];omega⟩
   show uR R L (cl x) (cl y) (ub o) (i:Nat) = _
   have hul:∀ l:List Nat,(ub l).length = l.length:=fun l=>List.length_map _
   rw [hq,show decide ((i:Int) < 16) = true from decide_eq_true (by omega),zB (by omega)]
   simp only [nn,tn,cond_true,yB (show i < 16 from hi),yG,BU3]
   rw [sO (Nat.lt_trans (wU _) (by decide)),show vE R _ 4 = _ from AJ6 ((y.getD i 0 + x.getD i 0) % 4294967296) 4 (by decide)]
   simp only [Option.bind_some]
   rw [hul,hul,hl,vR (by omega)]
   simp only [cond_true]
   unfold stF ub
   rw [List.map_append])
  [] rfl
theorem A67 (V:List UInt8) (hV:V.length = 64) (y0:List Nat) (hy:y0.length = 16):
  tW R L V (cl y0) (cl y0) 0 = uH R L (cl (wJ (fun i y=>y.set i (wLE V (4 * i))) 16 0 y0)) (cl (wJ (fun i y=>y.set i (wLE V (4 * i))) 16 0 y0)) 0:=
 (yJ (fun (y:List Nat) i=>tW R L V (cl y) (cl y) i) (fun i y=>y.set i (wLE V (4 * i))) (fun _ y=>y.length = 16) 16 (fun y=>uH R L (cl y) (cl y) 0)
  (fun y _=>by
   have hq:tW R L V (cl y) (cl y) (16:Nat) = _:=round (by kernel_rfl) (Ac5 R L V (cl y) (cl y) (16:Nat))
   show tW R L V (cl y) (cl y) (16:Nat) = _
   rw [hq];rfl)
  (fun y i hi hy=>by
   have hq:tW R L V (cl y) (cl y) (i:Nat) = _:=round (by kernel_rfl) (Ac5 R L V (cl y) (cl y) (i:Nat))
   refine ⟨?_,by rw [List.length_set];exact hy⟩
   show tW R L V (cl y) (cl y) (i:Nat) = _
   have e4:IntKind.wrap .i64 ((4:Int) * (i:Int)) = ((4 * i:Nat):Int):=by rw [zH (by omega) (by omega)];omega
   have hs:(y.set i (wLE V (4 * i))).getD i 0 = wLE V (4 * i):=by
    rw [List.getD_eq_getElem?_getD,List.getElem?_set,if_pos rfl,if_pos (by omega)];rfl
   rw [hq,show decide ((i:Int) < 16) = true from decide_eq_true (by omega),e4,zB (by omega)]
   simp only [nn,tn,cond_true]
   rw [A7M (Nat.le_refl _),A7M (show 4 * i ≤ V.length by omega),List.take_length,Ag3 _ (by rw [List.length_drop];omega),A6c]
   simp only [cond_true,Option.bind_some]
   rw [yB (show i < 16 from hi),tI,yG,hs,tI]
   rfl)
  y0 hy).1
theorem BL0 (key nonce:List UInt8) (hk:key.length = 32) (hn:nonce.length = 12) (count:Nat) (hc:count < 4294967296):
  wJ (fun i y=>y.set i (wLE (((exC ++ key) ++ ub (lit count 4)) ++ nonce) (4 * i))) 16 0 (List.replicate 16 0) = chI key nonce count:=by
 have hl:(ub (lit count 4)).length = 4:=by unfold ub;rw [List.length_map,cW _ _ (by decide)]
 have he:exC.length = 16:=rfl
 have h1:(exC ++ key).length = 48:=by rw [List.length_append];omega
 have h2:((exC ++ key) ++ ub (lit count 4)).length = 52:=by rw [List.length_append];omega
 show [wLE _ 0,wLE _ 4,wLE _ 8,wLE _ 12,wLE _ 16,wLE _ 20,wLE _ 24,wLE _ 28,wLE _ 32,wLE _ 36,wLE _ 40,wLE _ 44,wLE _ 48,wLE _ 52,wLE _ 56,wLE _ 60] = _
 have a0:∀ i,i + 3 < 16 → wLE (((exC ++ key) ++ ub (lit count 4)) ++ nonce) i = wLE exC i:=fun i hi=>by
  rw [AL9 (by omega),AL9 (by omega),AL9 (by omega)]
 have a1:∀ j,j + 3 < 32 → wLE (((exC ++ key) ++ ub (lit count 4)) ++ nonce) (16 + j) = wLE key j:=fun j hj=>by
  rw [AL9 (by omega),AL9 (by omega),A1I (j:=j) (by omega)]
 have a2:wLE (((exC ++ key) ++ ub (lit count 4)) ++ nonce) 48 = count:=by
  rw [AL9 (by omega),A1I (j:=0) (by omega),Bc1 _ hc]
 have a3:∀ j,wLE (((exC ++ key) ++ ub (lit count 4)) ++ nonce) (52 + j) = wLE nonce j:=fun j=>by
  rw [A1I (j:=j) (by omega)]
 rw [a0 0 (by decide),a0 4 (by decide),a0 8 (by decide),a0 12 (by decide),a1 0 (by decide),a1 4 (by decide),a1 8 (by decide),a1 12 (by decide),a1 16 (by decide),a1 20 (by decide),a1 24 (by decide),a1 28 (by decide),a2,a3 0,a3 4,a3 8]
 rfl
theorem A0N (key nonce:List UInt8) (hk:key.length = 32) (hn:nonce.length = 12) (count:Nat) (hc:count < 4294967296):
  bE R key nonce (count:Int) = some (ub (chO (chI key nonce count)),()) ∧ (ub (chO (chI key nonce count))).length = 64:=by
 have hq:bE R key nonce (count:Int) = _:=call (A7L R L key nonce (count:Int))
 have hl:(ub (lit count 4)).length = 4:=by unfold ub;rw [List.length_map,cW _ _ (by decide)]
 have he:exC.length = 16:=rfl
 have h1:(exC ++ key).length = 48:=by rw [List.length_append];omega
 have h2:((exC ++ key) ++ ub (lit count 4)).length = 52:=by rw [List.length_append];omega
 have hW:=Bg5 key nonce count hc
 obtain ⟨r1,r2⟩:=A4w (cl (chI key nonce count)) _ hW
 obtain ⟨b1,b2⟩:=A7p _ _ hW r2
 refine ⟨?_,by unfold ub;rw [List.length_map];exact b2⟩
 rw [hq,show vE R (count:Int) 4 = _ from AJ6 count 4 (by decide)]
 show cond (yP (exC.length + key.length)) (cond (yP ((exC ++ key).length + (ub (lit count 4)).length)) (cond (yP (((exC ++ key) ++ ub (lit count 4)).length + nonce.length)) (tW R L (((exC ++ key) ++ ub (lit count 4)) ++ nonce) (cl (List.replicate 16 0)) (cl (List.replicate 16 0)) 0) none) none) none = _
 rw [vR (by omega),vR (by omega),vR (by omega)]
 simp only [cond_true]
 rw [A67 _ (by rw [List.length_append];omega) _ rfl,BL0 key nonce hk hn count hc,r1]
 exact b1
end Go.Rf.S

end
section
namespace Go.Rf.S
set_option maxRecDepth 100000
theorem BW2 (o:List Nat) (ho:o.length ≤ 1048576) (w:Nat):cN R (cl o) (w:Int) = some (cl (o ++ lit w 4),()):=by
 have hq:cN R (cl o) (w:Int) = _:=call (A2K R L (cl o) (w:Int))
 have m24:Min.min (Int.toNat 24) (IntKind.bits .i64) = 24:=rfl
 have m16:Min.min (Int.toNat 16) (IntKind.bits .i64) = 16:=rfl
 have m8:Min.min (Int.toNat 8) (IntKind.bits .i64) = 8:=rfl
 rw [hq,m24,m16,m8,jQ,jQ,jQ,sJ,sJ,sJ,sJ,vR (by rw [gM];simp only [List.length_cons,List.length_nil];omega)]
 simp only [cond_true]
 rw [show [((w % 256:Nat):Int),((w / 2 ^ 8 % 256:Nat):Int),((w / 2 ^ 16 % 256:Nat):Int),((w / 2 ^ 24 % 256:Nat):Int)] = cl [w % 256,w / 2 ^ 8 % 256,w / 2 ^ 16 % 256,w / 2 ^ 24 % 256] from rfl,AW8]
 have:lit w 4 = [w / 2 ^ 0 % 256,w / 2 ^ 8 % 256,w / 2 ^ 16 % 256,w / 2 ^ 24 % 256]:=rfl
 rw [this,Nat.pow_zero,Nat.div_one]
theorem A3j (x y:List Nat) (hx:Wd 16 x) (hy:Wd 16 y):
  wN R L (cl x) (cl y) (cl []) 0 = some (ub (wJ (stF x y) 16 0 []),()) ∧ (wJ (stF x y) 16 0 []).length = 4 * 16:=
 yJ (fun (o:List Nat) i=>wN R L (cl x) (cl y) (cl o) i) (stF x y) (fun i o=>o.length = 4 * i) 16 (fun o=>some (ub o,()))
  (fun o _=>by
   have hq:wN R L (cl x) (cl y) (cl o) (16:Nat) = _:=round (by kernel_rfl) (AO0 R L (cl x) (cl y) (cl o) (16:Nat))
   show wN R L (cl x) (cl y) (cl o) (16:Nat) = _
   rw [hq,show decide (((16:Nat):Int) < 16) = false from by decide,Ap5];rfl)
  (fun o i hi ho=>by
   have hq:wN R L (cl x) (cl y) (cl o) (i:Nat) = _:=round (by kernel_rfl) (AO0 R L (cl x) (cl y) (cl o) (i:Nat))
   have hl:=cW ((y.getD i 0 + x.getD i 0) % 4294967296) 4 (by decide)
   have ay:=hy.g i;have ax:=hx.g i
   refine ⟨?_,by unfold stF;rw [List.length_append,ho,hl];omega⟩
   show wN R L (cl x) (cl y) (cl o) (i:Nat) = _
   rw [hq,show decide ((i:Int) < 16) = true from decide_eq_true (by omega),zB (by omega)]
   simp only [nn,tn,cond_true,yB (show i < 16 from hi),yG]
   rw [Ar4 (by simp only [sF];omega),m32 (by omega),BW2 o (by omega)]
   rfl)
  [] rfl
theorem Az2 (key nonce:List UInt8) (hk:key.length = 32) (hn:nonce.length = 12) (count:Nat) (hc:count < 4294967296):
  pU R key nonce (count:Int) = some (ub (chO (chI key nonce count)),()):=by
 have hW:=Bg5 key nonce count hc
 obtain ⟨r1,r2⟩:=A4v (cl (chI key nonce count)) _ hW
 rw [Bl3 key nonce hk hn count,r1]
 exact (A3j _ _ hW r2).1
end Go.Rf.S

end
section
namespace Go.Rf.S
set_option maxRecDepth 100000
def bn (t:List UInt8):List Nat:=List.map UInt8.toNat t
theorem Bp8 (t:List UInt8):List.map (fun b:UInt8=>((b.toNat:Nat):Int)) t = cl (bn t):=by
 unfold cl bn;rw [List.map_map];rfl
theorem BQ5 (t:List UInt8):(bn t).length = t.length:=List.length_map _
theorem Bb6 (t:List UInt8) (i:Nat):(bn t).getD i 0 = bt t i:=by
 unfold bn bt
 rw [List.getD_eq_getElem?_getD,List.getD_eq_getElem?_getD,List.getElem?_map]
 cases t[i]? <;> rfl
theorem A9n {a b:List UInt8} (hl:a.length = b.length) (h:∀ i,i < a.length → bt a i = bt b i):a = b:=by
 apply List.ext_getElem hl
 intro i h1 h2
 have:=h i h1
 unfold bt at this
 rw [List.getD_eq_getElem?_getD,List.getD_eq_getElem?_getD,List.getElem?_eq_getElem h1,List.getElem?_eq_getElem h2] at this
 exact UInt8.toNat_inj.1 this
theorem Bg1 {l:List Nat} {i:Nat} (h:l.getD i 0 < 256):bt (ub l) i = l.getD i 0:=by
 unfold bt ub
 rw [List.getD_eq_getElem?_getD,List.getD_eq_getElem?_getD,List.getElem?_map]
 rw [List.getD_eq_getElem?_getD] at h
 cases e:l[i]? with
 | none=>rfl
 | some x=>
  rw [e] at h
  have h:x < 256:=h
  show (UInt8.ofNat x).toNat = x
  rw [UInt8.toNat_ofNat']
  exact Nat.mod_eq_of_lt h
theorem AT9:∀ (a b:List UInt8),a.length ≤ b.length → (A78 a b).length = a.length
 | [],_,_=>rfl
 | x :: a,[],h=>by simp at h
 | x :: a,y :: b,h=>by
  show (A78 a b).length + 1 = _
  rw [AT9 a b (by simpa using h)];rfl
theorem AF2 (x:UInt8) (a:List UInt8) (i:Nat):bt (x :: a) (i + 1) = bt a i:=rfl
theorem A0v:∀ (a b:List UInt8) (i:Nat),i < a.length → a.length ≤ b.length → bt (A78 a b) i = bt a i ^^^ bt b i
 | [],_,_,h,_=>by simp at h
 | x :: a,[],_,_,h=>by simp at h
 | x :: a,y :: b,0,_,h=>by
  show (x ^^^ y).toNat = _
  exact UInt8.toNat_xor x y
 | x :: a,y :: b,i + 1,hi,h=>by
  show bt ((x ^^^ y) :: A78 a b) (i + 1) = _
  rw [AF2,AF2,AF2]
  exact A0v a b i (by simpa using hi) (by simpa using h)
def stX (b:List UInt8) (i:Nat) (y:List Nat):List Nat:=y.set i (y.getD i 0 ^^^ bt b i)
theorem BS8 {a b:Nat} (ha:a < 256) (hb:b < 256):a ^^^ b < 256:=Nat.xor_lt_two_pow (n:=8) ha hb
theorem Bo0 (a b:List UInt8) (h:a.length ≤ b.length) (hb:b.length ≤ 4294967296):A3p R a b = some (A78 a b,()):=by
 have hq:A3p R a b = _:=call (BY9 R L a b)
 have hlp:=yJ (fun (y:List Nat) i=>kF R L b (cl y) (a.length:Int) i) (stX b)
  (fun i y=>y.length = a.length ∧ ∀ j,y.getD j 0 = if j < i then bt a j ^^^ bt b j else bt a j) a.length (fun y=>some (ub y,()))
  (fun y _=>by
   have hq:kF R L b (cl y) (a.length:Int) (a.length:Nat) = _:=round (by kernel_rfl) (A1s R L b (cl y) (a.length:Int) (a.length:Nat))
   show kF R L b (cl y) (a.length:Int) (a.length:Nat) = _
   rw [hq,decide_eq_false (show ¬ ((a.length:Int) < (a.length:Int)) by omega),Ap5];rfl)
  (fun y i hi hy=>by
   obtain ⟨h1,h2⟩:=hy
   have hq:kF R L b (cl y) (a.length:Int) (i:Nat) = _:=round (by kernel_rfl) (A1s R L b (cl y) (a.length:Int) (i:Nat))
   have hyi:=h2 i
   rw [if_neg (Nat.lt_irrefl i)] at hyi
   refine ⟨?_,by unfold stX;rw [List.length_set];exact h1,fun j=>?_⟩
   ·show kF R L b (cl y) (a.length:Int) (i:Nat) = _
    rw [hq,decide_eq_true (show (i:Int) < (a.length:Int) by omega),zB (by omega)]
    simp only [nn,tn,cond_true,gM,h1,yB hi,yB (show i < b.length by omega),yG]
    have e:xH .xor .u8 ((y.getD i 0:Nat):Int) (((b.getD i 0).toNat:Nat):Int) = ((y.getD i 0 ^^^ bt b i:Nat):Int):=A1F (k:=.u8) (by rw [hyi];exact rT a i) (rT b i)
    rw [e,tI]
    rfl
   ·unfold stX
    by_cases hj:j = i
    ·subst hj
     rw [if_pos (Nat.lt_succ_self _),List.getD_eq_getElem?_getD,List.getElem?_set,if_pos rfl,if_pos (by omega),hyi];rfl
    ·rw [List.getD_eq_getElem?_getD,List.getElem?_set,if_neg (fun e=>hj e.symm),← List.getD_eq_getElem?_getD,h2 j]
     by_cases hji:j < i
     ·rw [if_pos hji,if_pos (by omega)]
     ·rw [if_neg hji,if_neg (by omega)])
  (bn a) ⟨BQ5 a,fun j=>by rw [if_neg (by omega),Bb6]⟩
 obtain ⟨e1,e2,e3⟩:=hlp
 rw [hq,Bp8,gM,BQ5]
 refine Eq.trans e1 ?_
 refine congrArg (fun x=>some (x,())) ?_
 apply A9n
 ·unfold ub;rw [List.length_map,e2,AT9 a b h]
 ·intro i hi
  have hi':i < a.length:=by unfold ub at hi;rw [List.length_map,e2] at hi;exact hi
  have hv:=e3 i
  rw [if_pos hi'] at hv
  rw [Bg1 (by rw [hv];exact BS8 (rT _ _) (rT _ _)),hv,A0v a b i hi' h]
theorem AR6 {key nonce:List UInt8} (hk:key.length = 32) (hn:nonce.length = 12) {count:Nat} (hc:count < 4294967296):(chB key nonce count).length = 64:=by
 unfold chB;exact (A0N key nonce hk hn count hc).2
theorem Aj8 (key nonce:List UInt8) (hk:key.length = 32) (hn:nonce.length = 12):∀ (n count:Nat) (t:List UInt8),t.length ≤ 64 * n → count + n < 4294967296 →
  (chX key nonce n count t).length = t.length ∧ ∀ i,i < t.length → bt (chX key nonce n count t) i = bt t i ^^^ bt (chB key nonce (count + i / 64)) (i % 64)
 | 0,count,t,ht,_=>by
  have:t.length = 0:=by omega
  exact ⟨by rw [this];rfl,fun i hi=>by omega⟩
 | n + 1,count,t,ht,hc=>by
  unfold chX
  by_cases h0:t = []
  ·subst h0
   rw [if_pos rfl]
   exact ⟨rfl,fun i hi=>by simp at hi⟩
  ·rw [if_neg h0]
   have hB:(chB key nonce count).length = 64:=AR6 hk hn (by omega)
   have hx:(A78 (t.take 64) (chB key nonce count)).length = (t.take 64).length:=AT9 _ _ (by rw [List.length_take];omega)
   obtain ⟨r1,r2⟩:=Aj8 key nonce hk hn n (count + 1) (t.drop 64) (by rw [List.length_drop];omega) (by omega)
   have htk:(t.take 64).length = min 64 t.length:=List.length_take
   refine ⟨by rw [List.length_append,hx,r1,List.length_drop,htk];omega,fun i hi=>?_⟩
   by_cases hi64:i < 64
   ·rw [Aa1 (by rw [hx,htk];omega),A0v _ _ _ (by rw [htk];omega) (by rw [htk];omega),show i / 64 = 0 by omega,show i % 64 = i by omega]
    have:bt (t.take 64) i = bt t i:=by unfold bt;rw [bS t hi64]
    rw [this];rfl
   ·rw [Ab8 (by rw [hx,htk];omega),hx,htk,show min 64 t.length = 64 by omega,r2 (i - 64) (by rw [List.length_drop];omega)]
    have e1:bt (t.drop 64) (i - 64) = bt t i:=by unfold bt;rw [List.getD_eq_getElem?_getD,List.getD_eq_getElem?_getD,List.getElem?_drop,show 64 + (i - 64) = i by omega]
    rw [e1,show count + 1 + (i - 64) / 64 = count + i / 64 by omega,show (i - 64) % 64 = i % 64 by omega]
def B0 (key nonce:List UInt8) (count i:Nat):List UInt8:=chB key nonce (count + i / 64)
def stQ (key nonce:List UInt8) (count:Nat) (t:List UInt8) (i:Nat) (s:List Nat × List UInt8):List Nat × List UInt8:=
 (s.1 ++ [bt t i ^^^ bt (if i % 64 = 0 then B0 key nonce count i else s.2) (i % 64)],if i % 64 = 0 then B0 key nonce count i else s.2)
theorem A9l (key nonce:List UInt8) (hk:key.length = 32) (hn:nonce.length = 12) (count:Nat) (t:List UInt8) (ht:t.length ≤ 1073741824) (hc:count ≤ 1024):
  bF R key nonce (count:Int) t = some (chX key nonce (t.length / 64 + 1) count t,()):=by
 have hq:bF R key nonce (count:Int) t = _:=call (A7y R L key nonce (count:Int) t)
 have hB:∀ i,i ≤ t.length → (B0 key nonce count i).length = 64:=fun i hi=>AR6 hk hn (by omega)
 have hlp:=yJ (fun (s:List Nat × List UInt8) i=>sX R L key nonce (count:Int) t (cl s.1) s.2 i) (stQ key nonce count t)
  (fun i s=>s.1.length = i ∧ (i % 64 ≠ 0 → s.2 = B0 key nonce count i) ∧ ∀ j,j < i → s.1.getD j 0 = bt t j ^^^ bt (B0 key nonce count j) (j % 64)) t.length (fun s=>some (ub s.1,()))
  (fun s _=>by
   have hq:sX R L key nonce (count:Int) t (cl s.1) s.2 (t.length:Nat) = _:=round (by kernel_rfl) (Ac4 R L key nonce (count:Int) t (cl s.1) s.2 (t.length:Nat))
   show sX R L key nonce (count:Int) t (cl s.1) s.2 (t.length:Nat) = _
   rw [hq,decide_eq_false (show ¬ ((t.length:Int) < (t.length:Int)) by omega),Ap5];rfl)
  (fun s i hi hs=>by
   obtain ⟨h1,h2,h3⟩:=hs
   have hq:sX R L key nonce (count:Int) t (cl s.1) s.2 (i:Nat) = _:=round (by kernel_rfl) (Ac4 R L key nonce (count:Int) t (cl s.1) s.2 (i:Nat))
   have hBi:=hB i (by omega)
   have em:Int.tmod (i:Int) 64 = ((i % 64:Nat):Int):=BB4 i 64
   have ed:Int.tdiv (i:Int) 64 = ((i / 64:Nat):Int):=rfl
   have hm:i % 64 < 64:=Nat.mod_lt _ (by decide)
   have bx:∀ (B:List UInt8),xH .xor .u8 (((t.getD i 0).toNat:Nat):Int) (((B.getD (i % 64) 0).toNat:Nat):Int) = ((bt t i ^^^ bt B (i % 64):Nat):Int):=fun B=>A1F (k:=.u8) (rT t i) (rT B _)
   have hcase:(if i % 64 = 0 then B0 key nonce count i else s.2) = B0 key nonce count i:=by
    by_cases h0:i % 64 = 0
    ·rw [if_pos h0]
    ·rw [if_neg h0,h2 h0]
   refine ⟨?_,?_,?_,?_⟩
   ·show sX R L key nonce (count:Int) t (cl s.1) s.2 (i:Nat) = _
    rw [hq,decide_eq_true (show (i:Int) < (t.length:Int) by omega),em,ed]
    unfold stQ
    rw [hcase]
    by_cases h0:i % 64 = 0
    ·rw [show eqI ((i % 64:Nat):Int) 0 = true from by rw [vK];exact decide_eq_true (by omega),sO (n:=i / 64) (by omega),Ar4 (by simp only [sF];omega),show pU R key nonce ((count + i / 64:Nat):Int) = some (B0 key nonce count i,()) from Az2 key nonce hk hn _ (by omega)]
     simp only [nn,tn,cond_true,Option.bind_some]
     rw [yB hi,hBi,yB hm,vR (by rw [gM];simp only [List.length_cons,List.length_nil];omega),bx,zB (by omega)]
     simp only [cond_true]
     rw [show [((bt t i ^^^ bt (B0 key nonce count i) (i % 64):Nat):Int)] = cl [bt t i ^^^ bt (B0 key nonce count i) (i % 64)] from rfl,AW8]
    ·rw [show eqI ((i % 64:Nat):Int) 0 = false from by rw [vK];exact decide_eq_false (by omega),h2 h0]
     simp only [nn,tn,cond_true,cond_false]
     rw [yB hi,hBi,yB hm,vR (by rw [gM];simp only [List.length_cons,List.length_nil];omega),bx,zB (by omega)]
     simp only [cond_true]
     rw [show [((bt t i ^^^ bt (B0 key nonce count i) (i % 64):Nat):Int)] = cl [bt t i ^^^ bt (B0 key nonce count i) (i % 64)] from rfl,AW8]
   ·unfold stQ;rw [List.length_append,h1];rfl
   ·intro h0
    unfold stQ
    rw [hcase]
    unfold B0
    rw [show (i + 1) / 64 = i / 64 by omega]
   ·intro j hj
    unfold stQ
    rw [hcase]
    by_cases hji:j = i
    ·subst hji
     rw [List.getD_eq_getElem?_getD,List.getElem?_append_right (by omega),h1,Nat.sub_self];rfl
    ·rw [List.getD_eq_getElem?_getD,List.getElem?_append_left (by omega),← List.getD_eq_getElem?_getD]
     exact h3 j (by omega))
  ([],[]) ⟨rfl,fun h=>absurd rfl h,fun j hj=>by omega⟩
 obtain ⟨e1,e2,_,e3⟩:=hlp
 obtain ⟨r1,r2⟩:=Aj8 key nonce hk hn (t.length / 64 + 1) count t (by omega) (by omega)
 rw [hq]
 refine Eq.trans e1 ?_
 refine congrArg (fun x=>some (x,())) ?_
 have hul:∀ l:List Nat,(ub l).length = l.length:=fun l=>List.length_map _
 apply A9n
 ·rw [hul,e2,r1]
 ·intro i hi
  rw [hul,e2] at hi
  have hv:=e3 i hi
  rw [Bg1 (by rw [hv];exact BS8 (rT _ _) (rT _ _)),hv,r2 i hi]
  rfl
end Go.Rf.S

end
section

end
section
namespace Go.Rf.S
set_option maxRecDepth 100000
theorem A7a {x:List Nat} (h:x.length = 5):x = [x.getD 0 0,x.getD 1 0,x.getD 2 0,x.getD 3 0,x.getD 4 0]:=by
 match x,h with
 | [a,b,c,d,e],_=>rfl
def crd (x:List Nat):List Nat:=car (x.getD 0 0) (x.getD 1 0) (x.getD 2 0) (x.getD 3 0) (x.getD 4 0)
def CAR (x:List Nat):List Nat:=crd (crd (crd x))
def vl (x:List Nat):Nat:=val (x.getD 0 0) (x.getD 1 0) (x.getD 2 0) (x.getD 3 0) (x.getD 4 0)
structure Can (x:List Nat):Prop where
 l:x.length = 5
 b:Bd 67108864 x
theorem bd5 {B a b c d e:Nat} (ha:a < B) (hb:b < B) (hc:c < B) (hd:d < B) (he:e < B):Bd B [a,b,c,d,e]:=fun x hx=>by
 simp only [List.mem_cons,List.not_mem_nil,or_false] at hx
 rcases hx with rfl | rfl | rfl | rfl | rfl <;> assumption
theorem A3O {x:List Nat} (h:x.length = 5) (hb:Bd 288230376151711744 x):Can (CAR x) ∧ vl (CAR x) % PP = vl x % PP ∧ (crd x).length = 5 ∧ Bd 1152921504606846976 (crd x) ∧ (crd (crd x)).length = 5 ∧ Bd 1152921504606846976 (crd (crd x)):=by
 have g:=fun i=>hb.get (by decide) i
 obtain ⟨a1,b1,c1,d1,e1,a2,b2,c2,d2,e2,a3,b3,c3,d3,e3,h1,h2,h3,hv,q0,q1,q2,q3,q4,r0,r1,r2,r3,r4,s0,s1,s2,s3,s4⟩:=Bv2 (x.getD 0 0) (x.getD 1 0) (x.getD 2 0) (x.getD 3 0) (x.getD 4 0) (g 0) (g 1) (g 2) (g 3) (g 4)
 have e1:crd x = [a1,b1,c1,d1,e1]:=h1
 have e2:crd (crd x) = [a2,b2,c2,d2,e2]:=by rw [e1];exact h2
 have e3:CAR x = [a3,b3,c3,d3,e3]:=by unfold CAR;rw [e2];exact h3
 refine ⟨⟨by rw [e3];rfl,by rw [e3];exact bd5 q0 q1 q2 q3 q4⟩,by rw [e3];exact hv,by rw [e1];rfl,?_,by rw [e2];rfl,?_⟩
 ·rw [e1];exact bd5 r0 (by omega) (by omega) (by omega) (by omega)
 ·rw [e2];exact bd5 s0 (by omega) (by omega) (by omega) (by omega)
theorem BT0 {x:List Nat} (h:Can x):CAR x = x:=by
 have g:=fun i=>h.b.get (by decide) i
 have e:crd x = x:=by
  have:=Bg3 (g 0) (g 1) (g 2) (g 3) (g 4)
  exact this.trans (A7a h.l).symm
 unfold CAR
 rw [e,e,e]
theorem BP2 (l:List Nat) (i a:Nat) (z:Int) (h:z = (a:Int)):(cl l).set i z = cl (l.set i a):=by rw [h,tI]
def Bs7 (i:Nat) (s:List Nat × Nat):List Nat × Nat:=(s.1.set i ((s.1.getD i 0 + s.2) % 67108864),(s.1.getD i 0 + s.2) / 67108864)
theorem aT (v2:List Int) (j:Int) (x:List Nat) (hx:x.length = 5) (hb:Bd 1152921504606846976 x):
  xN R L (cl x) v2 (0:Int) j (0:Int) = uV R L (cl (crd x)) v2 (IntKind.wrap .i64 (j + 1)):=by
 have:=(yJ (fun (s:List Nat × Nat) i=>xN R L (cl s.1) v2 (s.2:Int) j i) Bs7
  (fun i s=>s.1.length = 5 ∧ Bd 1152921504606846976 s.1 ∧ s.2 < 68719476736) 5
  (fun s=>uV R L (cl (s.1.set 0 (s.1.getD 0 0 + 5 * s.2))) v2 (IntKind.wrap .i64 (j + 1)))
  (fun s hs=>by
   obtain ⟨h1,h2,h3⟩:=hs
   have hq:xN R L (cl s.1) v2 (s.2:Int) j (5:Nat) = _:=round (by kernel_rfl) (dI R L (cl s.1) v2 (s.2:Int) j (5:Nat))
   have hg:=h2.get (by decide) 0
   show xN R L (cl s.1) v2 (s.2:Int) j (5:Nat) = _
   rw [hq,show decide (((5:Nat):Int) < 5) = false from by decide]
   simp only [cond_false]
   rw [BP2 _ _ (s.1.getD 0 0 + 5 * s.2)]
   ·rfl
   ·show IntKind.wrap .u64 ((cl s.1).getD 0 0 + IntKind.wrap .u64 (5 * (s.2:Int))) = _
    rw [yG,A0J,A0J]
    omega)
  (fun s i hi hs=>by
   obtain ⟨h1,h2,h3⟩:=hs
   have hq:xN R L (cl s.1) v2 (s.2:Int) j (i:Nat) = _:=round (by kernel_rfl) (dI R L (cl s.1) v2 (s.2:Int) j (i:Nat))
   have hg:=h2.get (by decide) i
   refine ⟨?_,by simp [Bs7,h1],h2.set (Nat.lt_of_lt_of_le (Nat.mod_lt _ (by decide)) (by decide)),?_⟩
   ·show xN R L (cl s.1) v2 (s.2:Int) j (i:Nat) = _
    have hw:IntKind.wrap .u64 ((cl s.1).getD i 0 + (s.2:Int)) = ((s.1.getD i 0 + s.2:Nat):Int):=by
     rw [yG,A0J];omega
    have hgs:((cl s.1).set i ((s.1.getD i 0 + s.2:Nat):Int)).getD i 0 = ((s.1.getD i 0 + s.2:Nat):Int):=by
     rw [tI,yG,List.getD_eq_getElem?_getD,List.getElem?_set]
     simp [h1,hi]
    rw [hq,show decide ((i:Int) < 5) = true from decide_eq_true (by omega),nn,tn,yB (n:=5) hi]
    simp only [cond_true]
    rw [hw,hgs,zB (by omega),List.set_set,show xH .and .u64 ((s.1.getD i 0 + s.2:Nat):Int) 67108863 = (((s.1.getD i 0 + s.2) % 67108864:Nat):Int) from by
     rw [show (67108863:Int) = ((67108863:Nat):Int) from rfl,AP8 (by simp only [sF];omega) (by decide),A9D],tI]
    rw [show Int.fdiv ((s.1.getD i 0 + s.2:Nat):Int) (2 ^ Min.min (Int.toNat 26) (IntKind.bits .u64)) = (((s.1.getD i 0 + s.2) / 67108864:Nat):Int) from jQ _ 26]
    rfl
   ·show (s.1.getD i 0 + s.2) / 67108864 < 68719476736
    omega)
  (x,0) ⟨hx,hb,(by decide:(0:Nat) < 68719476736)⟩).1
 refine this.trans ?_
 obtain ⟨a,b,c,d,e,rfl⟩:∃ a b c d e,x = [a,b,c,d,e]:=⟨_,_,_,_,_,A7a hx⟩
 rfl
theorem AR5 (x:List Nat) (hx:x.length = 5) (hb:Bd 288230376151711744 x):wF R (cl x) = some (cl (CAR x),()):=by
 have hq:wF R (cl x) = _:=call (Aa7 R L (cl x))
 obtain ⟨_,_,l1,b1,l2,b2⟩:=A3O hx hb
 have b0:Bd 1152921504606846976 x:=fun y hy=>Nat.lt_of_lt_of_le (hb y hy) (by decide)
 have q0:∀ (y:List Int) (v2:List Int) (j:Int),uV R L y v2 j = _:=fun y v2 j=>round (by kernel_rfl) (AR4 R L y v2 j)
 rw [hq,q0,show decide ((0:Int) < 3) = true from rfl]
 simp only [cond_true]
 rw [aT _ _ x hx b0,q0,show decide (IntKind.wrap .i64 ((0:Int) + 1) < 3) = true from by decide]
 simp only [cond_true]
 rw [aT _ _ _ l1 b1,q0,show decide (IntKind.wrap .i64 (IntKind.wrap .i64 ((0:Int) + 1) + 1) < 3) = true from by decide]
 simp only [cond_true]
 rw [aT _ _ _ l2 b2,q0,show decide (IntKind.wrap .i64 (IntKind.wrap .i64 (IntKind.wrap .i64 ((0:Int) + 1) + 1) + 1) < 3) = false from by decide]
 rfl
end Go.Rf.S

end
section
namespace Go.Rf.S
set_option maxRecDepth 100000
theorem nJ {l:List Nat} {i j a:Nat} (h:i ≠ j):(l.set i a).getD j 0 = l.getD j 0:=by
 rw [List.getD_eq_getElem?_getD,List.getD_eq_getElem?_getD,List.getElem?_set,if_neg h]
theorem vO {k:IntKind} {a b:Nat} (h:a + b < sF k):IntKind.wrap k ((a:Int) + (b:Int)) = ((a + b:Nat):Int):=by
 rw [show (a:Int) + (b:Int) = ((a + b:Nat):Int) from by omega,AW0 h]
theorem gC {k:IntKind} {a b:Nat} (h:a * b < sF k):IntKind.wrap k ((a:Int) * (b:Int)) = ((a * b:Nat):Int):=by
 rw [show (a:Int) * (b:Int) = ((a * b:Nat):Int) from by simp,AW0 h]
theorem m26 {k:IntKind} {a:Nat} (h:a < sF k) (hk:67108863 < sF k):xH .and k (a:Int) 67108863 = ((a % 67108864:Nat):Int):=by
 rw [show (67108863:Int) = ((67108863:Nat):Int) from rfl,AP8 h hk,A9D]
def Bi8 (i:Nat) (x:List Nat):List Nat:=(x.set (i + 1) (x.getD (i + 1) 0 + x.getD i 0 / 67108864)).set i (x.getD i 0 % 67108864)
theorem aN (v2:List Int) (j:Int) (x:List Nat) (hx:x.length = 5) (hb:Bd 1152921504606846976 x):
  uO R L (cl x) v2 j (0:Int) = pD R L (cl (crd x)) v2 (IntKind.wrap .i64 (j + 1)):=by
 have:=(yJ (fun (x:List Nat) i=>uO R L (cl x) v2 j i) Bi8
  (fun i x=>x.length = 5 ∧ Bd (1152921504606846976 + i * 1099511627776) x) 4
  (fun x=>pD R L (cl ((x.set 0 (x.getD 0 0 + 5 * (x.getD 4 0 / 67108864))).set 4 (x.getD 4 0 % 67108864))) v2 (IntKind.wrap .i64 (j + 1)))
  (fun x hs=>by
   obtain ⟨h1,h2⟩:=hs
   have hq:uO R L (cl x) v2 j (4:Nat) = _:=round (by kernel_rfl) (AO9 R L (cl x) v2 j (4:Nat))
   have hg:=h2.get (by decide) 0
   have hg4:=h2.get (by decide) 4
   show uO R L (cl x) v2 j (4:Nat) = _
   rw [hq,show decide (((4:Nat):Int) < 4) = false from by decide]
   simp only [cond_false]
   have e0:Int.toNat 0 = 0:=rfl
   have e4:Int.toNat 4 = 4:=rfl
   have ed:Int.fdiv ((cl x).getD 4 0) (2 ^ Min.min (Int.toNat 26) (IntKind.bits .i64)) = ((x.getD 4 0 / 67108864:Nat):Int):=by rw [yG];exact jQ _ 26
   have ew:IntKind.wrap .i64 ((cl x).getD 0 0 + IntKind.wrap .i64 (5 * ((x.getD 4 0 / 67108864:Nat):Int))) = ((x.getD 0 0 + 5 * (x.getD 4 0 / 67108864):Nat):Int):=by
    rw [show (5:Int) = ((5:Nat):Int) from rfl,gC (by simp only [sF];omega),yG,vO (by simp only [sF];omega)]
   rw [e0,e4,ed,ew,tI,yG,nJ (by decide),m26 (by simp only [sF];omega) (by decide),tI])
  (fun x i hi hs=>by
   obtain ⟨h1,h2⟩:=hs
   have hq:uO R L (cl x) v2 j (i:Nat) = _:=round (by kernel_rfl) (AO9 R L (cl x) v2 j (i:Nat))
   have hpos:0 < 1152921504606846976 + i * 1099511627776:=by omega
   have hg:=h2.get hpos i
   have hg1:=h2.get hpos (i + 1)
   have hmono:Bd (1152921504606846976 + (i + 1) * 1099511627776) x:=fun y hy=>Nat.lt_of_lt_of_le (h2 y hy) (by omega)
   refine ⟨?_,by simp [Bi8,h1],(hmono.set (by omega)).set (Nat.lt_of_lt_of_le (Nat.mod_lt _ (by decide)) (by omega))⟩
   show uO R L (cl x) v2 j (i:Nat) = _
   have ed:Int.fdiv ((cl x).getD i 0) (2 ^ Min.min (Int.toNat 26) (IntKind.bits .i64)) = ((x.getD i 0 / 67108864:Nat):Int):=by rw [yG];exact jQ _ 26
   rw [hq,show decide ((i:Int) < 4) = true from decide_eq_true (by omega),zB (by omega),nn,tn,nn,tn,yB (n:=5) (show i + 1 < 5 by omega),yB (n:=5) (show i < 5 by omega)]
   simp only [cond_true]
   rw [ed,yG,vO (by simp only [sF];omega),tI,yG,nJ (by omega),m26 (by simp only [sF];omega) (by decide),tI]
   rfl)
  x ⟨hx,by simpa using hb⟩).1
 refine this.trans ?_
 obtain ⟨a,b,c,d,e,rfl⟩:∃ a b c d e,x = [a,b,c,d,e]:=⟨_,_,_,_,_,A7a hx⟩
 rfl
theorem A1h (x:List Nat) (hx:x.length = 5) (hb:Bd 288230376151711744 x):mH R (cl x) = some (cl (CAR x),()):=by
 have hq:mH R (cl x) = _:=call (A2J R L (cl x))
 obtain ⟨_,_,l1,b1,l2,b2⟩:=A3O hx hb
 have b0:Bd 1152921504606846976 x:=fun y hy=>Nat.lt_of_lt_of_le (hb y hy) (by decide)
 have q0:∀ (y:List Int) (v2:List Int) (j:Int),pD R L y v2 j = _:=fun y v2 j=>round (by kernel_rfl) (At9 R L y v2 j)
 rw [hq,q0,show decide ((0:Int) < 3) = true from rfl]
 simp only [cond_true]
 rw [aN _ _ x hx b0,q0,show decide (IntKind.wrap .i64 ((0:Int) + 1) < 3) = true from by decide]
 simp only [cond_true]
 rw [aN _ _ _ l1 b1,q0,show decide (IntKind.wrap .i64 (IntKind.wrap .i64 ((0:Int) + 1) + 1) < 3) = true from by decide]
 simp only [cond_true]
 rw [aN _ _ _ l2 b2,q0,show decide (IntKind.wrap .i64 (IntKind.wrap .i64 (IntKind.wrap .i64 ((0:Int) + 1) + 1) + 1) < 3) = false from by decide]
 rfl
def TIM (x y : List Nat) : List Nat :=
  [x.getD 0 0 * y.getD 0 0 + 5 * (x.getD 1 0 * y.getD 4 0) + 5 * (x.getD 2 0 * y.getD 3 0) + 5 * (x.getD 3 0 * y.getD 2 0) + 5 * (x.getD 4 0 * y.getD 1 0),
   x.getD 0 0 * y.getD 1 0 + x.getD 1 0 * y.getD 0 0 + 5 * (x.getD 2 0 * y.getD 4 0) + 5 * (x.getD 3 0 * y.getD 3 0) + 5 * (x.getD 4 0 * y.getD 2 0),
   x.getD 0 0 * y.getD 2 0 + x.getD 1 0 * y.getD 1 0 + x.getD 2 0 * y.getD 0 0 + 5 * (x.getD 3 0 * y.getD 4 0) + 5 * (x.getD 4 0 * y.getD 3 0),
   x.getD 0 0 * y.getD 3 0 + x.getD 1 0 * y.getD 2 0 + x.getD 2 0 * y.getD 1 0 + x.getD 3 0 * y.getD 0 0 + 5 * (x.getD 4 0 * y.getD 4 0),
   x.getD 0 0 * y.getD 4 0 + x.getD 1 0 * y.getD 3 0 + x.getD 2 0 * y.getD 2 0 + x.getD 3 0 * y.getD 1 0 + x.getD 4 0 * y.getD 0 0]
theorem A9K (x y:List Nat):(TIM x y).length = 5:=rfl
theorem BU2 (x y:List Nat):vl (TIM x y) % PP = (vl x * vl y) % PP:=by
 obtain ⟨q,h⟩:=Bc8 (x.getD 0 0) (x.getD 1 0) (x.getD 2 0) (x.getD 3 0) (x.getD 4 0) (y.getD 0 0) (y.getD 1 0) (y.getD 2 0) (y.getD 3 0) (y.getD 4 0)
 show val _ _ _ _ _ % PP = (val _ _ _ _ _ * val _ _ _ _ _) % PP
 rw [h,Nat.add_mul_mod_self_right]
 rfl
theorem BJ9 {a b:Nat} (ha:a < 134217728) (hb:b < 67108864):a * b < 9007199254740992:=by
 have:a * b ≤ a * 67108864:=Nat.mul_le_mul_left _ (by omega)
 omega
theorem A6O {x y:List Nat} (hx:Bd 134217728 x) (hy:Bd 67108864 y):Bd 288230376151711744 (TIM x y):=by
 have p:=fun i j=>BJ9 (hx.get (by decide) i) (hy.get (by decide) j)
 have p00:=p 0 0;have p01:=p 0 1;have p02:=p 0 2;have p03:=p 0 3;have p04:=p 0 4
 have p10:=p 1 0;have p11:=p 1 1;have p12:=p 1 2;have p13:=p 1 3;have p14:=p 1 4
 have p20:=p 2 0;have p21:=p 2 1;have p22:=p 2 2;have p23:=p 2 3;have p24:=p 2 4
 have p30:=p 3 0;have p31:=p 3 1;have p32:=p 3 2;have p33:=p 3 3;have p34:=p 3 4
 have p40:=p 4 0;have p41:=p 4 1;have p42:=p 4 2;have p43:=p 4 3;have p44:=p 4 4
 exact bd5 (by omega) (by omega) (by omega) (by omega) (by omega)
def stT (x y:List Nat) (i k:Nat) (o:List Nat):List Nat:=
 if i + k < 5 then o.set (i + k) (o.getD (i + k) 0 + x.getD i 0 * y.getD k 0) else o.set (i + k - 5) (o.getD (i + k - 5) 0 + 5 * (x.getD i 0 * y.getD k 0))
def BG5 (i k:Nat) (o:List Nat):Prop:=o.length = 5 ∧ Bd (1 + (5 * i + k) * 45035996273704960) o
theorem A9w {x y o:List Nat} {i k:Nat} (hx:Bd 134217728 x) (hy:Bd 67108864 y) (h:BG5 i k o):BG5 i (k + 1) (stT x y i k o):=by
 obtain ⟨h1,h2⟩:=h
 have hp:=BJ9 (hx.get (by decide) i) (hy.get (by decide) k)
 have hpos:0 < 1 + (5 * i + k) * 45035996273704960:=by omega
 have hmono:Bd (1 + (5 * i + (k + 1)) * 45035996273704960) o:=fun z hz=>Nat.lt_of_lt_of_le (h2 z hz) (by omega)
 unfold stT
 split
 ·have:=h2.get hpos (i + k)
  exact ⟨by simp [h1],hmono.set (by omega)⟩
 ·have:=h2.get hpos (i + k - 5)
  exact ⟨by simp [h1],hmono.set (by omega)⟩
theorem BQ3 (x y : List Nat) : wJ (fun i o => wJ (stT x y i) 5 0 o) 5 0 (List.replicate 5 0) = TIM x y := by
  have e : wJ (fun i o => wJ (stT x y i) 5 0 o) 5 0 (List.replicate 5 0) =
    [0 + x.getD 0 0 * y.getD 0 0 + 5 * (x.getD 1 0 * y.getD 4 0) + 5 * (x.getD 2 0 * y.getD 3 0) + 5 * (x.getD 3 0 * y.getD 2 0) + 5 * (x.getD 4 0 * y.getD 1 0),
     0 + x.getD 0 0 * y.getD 1 0 + x.getD 1 0 * y.getD 0 0 + 5 * (x.getD 2 0 * y.getD 4 0) + 5 * (x.getD 3 0 * y.getD 3 0) + 5 * (x.getD 4 0 * y.getD 2 0),
     0 + x.getD 0 0 * y.getD 2 0 + x.getD 1 0 * y.getD 1 0 + x.getD 2 0 * y.getD 0 0 + 5 * (x.getD 3 0 * y.getD 4 0) + 5 * (x.getD 4 0 * y.getD 3 0),
     0 + x.getD 0 0 * y.getD 3 0 + x.getD 1 0 * y.getD 2 0 + x.getD 2 0 * y.getD 1 0 + x.getD 3 0 * y.getD 0 0 + 5 * (x.getD 4 0 * y.getD 4 0),
     0 + x.getD 0 0 * y.getD 4 0 + x.getD 1 0 * y.getD 3 0 + x.getD 2 0 * y.getD 2 0 + x.getD 3 0 * y.getD 1 0 + x.getD 4 0 * y.getD 0 0] := by kernel_rfl
  rw [e]
  simp only [Nat.zero_add]
  rfl
end Go.Rf.S

end
section
namespace Go.Rf.S
set_option maxRecDepth 100000
theorem A0n (x y:List Nat) (v3:List Int) (v4:List Int) (i:Nat) (hi:i < 5) (hx:Bd 134217728 x) (hy:Bd 67108864 y) (o:List Nat) (ho:BG5 i 0 o):
  xV R L v3 v4 (cl o) (i:Int) ((x.getD i 0:Nat):Int) (cl x) (i:Int) (cl y) (0:Int) = xU R L v3 v4 (cl (wJ (stT x y i) 5 0 o)) (cl x) ((i + 1:Nat):Int) ∧ BG5 (i + 1) 0 (wJ (stT x y i) 5 0 o):=by
 have:=yJ (fun (o:List Nat) k=>xV R L v3 v4 (cl o) (i:Int) ((x.getD i 0:Nat):Int) (cl x) (i:Int) (cl y) k) (stT x y i) (BG5 i) 5
  (fun o=>xU R L v3 v4 (cl o) (cl x) ((i + 1:Nat):Int))
  (fun o hs=>by
   have hq:xV R L v3 v4 (cl o) (i:Int) ((x.getD i 0:Nat):Int) (cl x) (i:Int) (cl y) (5:Nat) = _:=round (by kernel_rfl) (cZ R L v3 v4 (cl o) (i:Int) _ (cl x) (i:Int) (cl y) (5:Nat))
   show xV R L v3 v4 (cl o) (i:Int) ((x.getD i 0:Nat):Int) (cl x) (i:Int) (cl y) (5:Nat) = _
   rw [hq,show decide (((5:Nat):Int) < 5) = false from by decide,zB (i:=i) (by omega)]
   rfl)
  (fun o k hk hs=>by
   refine ⟨?_,A9w hx hy hs⟩
   have hq:xV R L v3 v4 (cl o) (i:Int) ((x.getD i 0:Nat):Int) (cl x) (i:Int) (cl y) (k:Nat) = _:=round (by kernel_rfl) (cZ R L v3 v4 (cl o) (i:Int) _ (cl x) (i:Int) (cl y) (k:Nat))
   show xV R L v3 v4 (cl o) (i:Int) ((x.getD i 0:Nat):Int) (cl x) (i:Int) (cl y) (k:Nat) = _
   have hp:=BJ9 (hx.get (by decide) i) (hy.get (by decide) k)
   have hxi:=hx.get (by decide) i
   have hpos:0 < 1 + (5 * i + k) * 45035996273704960:=by omega
   have hik:IntKind.wrap .i64 ((i:Int) + (k:Int)) = ((i + k:Nat):Int):=vO (by simp only [sF];omega)
   rw [hq,show decide ((k:Int) < 5) = true from decide_eq_true (by omega),nn,tn,yB (n:=5) hk,hik]
   simp only [cond_true]
   unfold stT
   by_cases h:i + k < 5
   ·have hg:=hs.2.get hpos (i + k)
    rw [if_pos h,show decide (((i + k:Nat):Int) < 5) = true from decide_eq_true (by omega)]
    simp only [cond_true]
    rw [nn,tn,yB (n:=5) h,zB (by omega)]
    simp only [cond_true]
    rw [yG,yG,gC (by simp only [sF];omega),vO (by simp only [sF];omega),tI]
   ·have hg:=hs.2.get hpos (i + k - 5)
    have h5:IntKind.wrap .i64 (((i + k:Nat):Int) - 5) = ((i + k - 5:Nat):Int):=by
     rw [zH (by omega) (by omega)];omega
    rw [if_neg h,show decide (((i + k:Nat):Int) < 5) = false from decide_eq_false (by omega)]
    simp only [cond_false]
    rw [h5,nn,tn,yB (n:=5) (show i + k - 5 < 5 by omega),zB (by omega)]
    simp only [cond_true]
    have hm:5 * x.getD i 0 * y.getD k 0 = 5 * (x.getD i 0 * y.getD k 0):=Nat.mul_assoc _ _ _
    rw [yG,yG,show (5:Int) = ((5:Nat):Int) from rfl,gC (by simp only [sF];omega),gC (by simp only [sF];omega),hm,vO (by simp only [sF];omega),tI])
  o ho
 refine ⟨this.1,this.2.1,?_⟩
 have h2:=this.2.2
 rw [show 5 * i + 5 = 5 * (i + 1) + 0 by omega] at h2
 exact h2
theorem BD6 (x y:List Nat) (hlx:x.length = 5) (hx:Bd 134217728 x) (hy:Bd 67108864 y):jP R (cl x) (cl y) = some (cl (CAR (TIM x y)),()):=by
 have hq:jP R (cl x) (cl y) = _:=call (Ap1 R L (cl x) (cl y))
 have:=(yJ (fun (o:List Nat) i=>xU R L (cl y) (List.replicate 5 0) (cl o) (cl x) i) (fun i o=>wJ (stT x y i) 5 0 o) (fun i o=>BG5 i 0 o) 5
  (fun o=>(wF R (cl o)).bind fun r0=>some (r0.1,()))
  (fun o hs=>by
   have hq:xU R L (cl y) (List.replicate 5 0) (cl o) (cl x) (5:Nat) = _:=round (by kernel_rfl) (bT R L (cl y) (List.replicate 5 0) (cl o) (cl x) (5:Nat))
   show xU R L (cl y) (List.replicate 5 0) (cl o) (cl x) (5:Nat) = _
   rw [hq,show decide (((5:Nat):Int) < 5) = false from by decide]
   rfl)
  (fun o i hi hs=>by
   have hq:xU R L (cl y) (List.replicate 5 0) (cl o) (cl x) (i:Nat) = _:=round (by kernel_rfl) (bT R L (cl y) (List.replicate 5 0) (cl o) (cl x) (i:Nat))
   obtain ⟨h1,h2⟩:=A0n x y (cl y) (List.replicate 5 0) i hi hx hy o hs
   refine ⟨?_,h2⟩
   show xU R L (cl y) (List.replicate 5 0) (cl o) (cl x) (i:Nat) = _
   rw [hq,show decide ((i:Int) < 5) = true from decide_eq_true (by omega),nn,tn,yB (n:=5) hi,yG]
   simp only [cond_true]
   exact h1)
  (List.replicate 5 0) ⟨rfl,Bd.rep (by omega)⟩).1
 rw [hq]
 refine this.trans ?_
 rw [BQ3]
 show (wF R (cl (TIM x y))).bind _ = _
 rw [AR5 _ (A9K x y) (A6O hx hy)]
 rfl
theorem A0y (x y:List Nat) (v4:List Int) (i:Nat) (hi:i < 5) (hx:Bd 134217728 x) (hy:Bd 67108864 y) (o:List Nat) (ho:BG5 i 0 o):
  vG R L (cl x) (cl y) v4 (cl o) (i:Int) (0:Int) = vJ R L (cl x) (cl y) v4 (cl (wJ (stT x y i) 5 0 o)) ((i + 1:Nat):Int) ∧ BG5 (i + 1) 0 (wJ (stT x y i) 5 0 o):=by
 have:=yJ (fun (o:List Nat) k=>vG R L (cl x) (cl y) v4 (cl o) (i:Int) k) (stT x y i) (BG5 i) 5
  (fun o=>vJ R L (cl x) (cl y) v4 (cl o) ((i + 1:Nat):Int))
  (fun o hs=>by
   have hq:vG R L (cl x) (cl y) v4 (cl o) (i:Int) (5:Nat) = _:=round (by kernel_rfl) (AM7 R L (cl x) (cl y) v4 (cl o) (i:Int) (5:Nat))
   show vG R L (cl x) (cl y) v4 (cl o) (i:Int) (5:Nat) = _
   rw [hq,show decide (((5:Nat):Int) < 5) = false from by decide,zB (i:=i) (by omega)]
   rfl)
  (fun o k hk hs=>by
   refine ⟨?_,A9w hx hy hs⟩
   have hq:vG R L (cl x) (cl y) v4 (cl o) (i:Int) (k:Nat) = _:=round (by kernel_rfl) (AM7 R L (cl x) (cl y) v4 (cl o) (i:Int) (k:Nat))
   show vG R L (cl x) (cl y) v4 (cl o) (i:Int) (k:Nat) = _
   have hp:=BJ9 (hx.get (by decide) i) (hy.get (by decide) k)
   have hpos:0 < 1 + (5 * i + k) * 45035996273704960:=by omega
   have hik:IntKind.wrap .i64 ((i:Int) + (k:Int)) = ((i + k:Nat):Int):=vO (by simp only [sF];omega)
   have hmod:Int.tmod ((i + k:Nat):Int) 5 = (((i + k) % 5:Nat):Int):=rfl
   rw [hq,show decide ((k:Int) < 5) = true from decide_eq_true (by omega),nn,tn,yB (n:=5) hi,nn,tn,yB (n:=5) hk,hik,hmod,nn,tn,yB (n:=5) (Nat.mod_lt _ (by decide)),zB (by omega),yG,yG,yG,gC (by simp only [sF];omega)]
   simp only [cond_true]
   unfold stT
   by_cases h:i + k < 5
   ·have hg:=hs.2.get hpos (i + k)
    rw [if_pos h,show decide ((4:Int) < ((i + k:Nat):Int)) = false from decide_eq_false (by omega),Nat.mod_eq_of_lt h]
    simp only [cond_false]
    rw [vO (by simp only [sF];omega),tI]
   ·have hg:=hs.2.get hpos (i + k - 5)
    have e5:(i + k) % 5 = i + k - 5:=by omega
    rw [if_neg h,show decide ((4:Int) < ((i + k:Nat):Int)) = true from decide_eq_true (by omega),e5]
    simp only [cond_true]
    have hm:x.getD i 0 * y.getD k 0 * 5 = 5 * (x.getD i 0 * y.getD k 0):=Nat.mul_comm _ _
    rw [show (5:Int) = ((5:Nat):Int) from rfl,gC (by simp only [sF];omega),hm,vO (by simp only [sF];omega),tI])
  o ho
 refine ⟨this.1,this.2.1,?_⟩
 have h2:=this.2.2
 rw [show 5 * i + 5 = 5 * (i + 1) + 0 by omega] at h2
 exact h2
theorem A8s (x y:List Nat) (hlx:x.length = 5) (hx:Bd 134217728 x) (hy:Bd 67108864 y):kE R (cl x) (cl y) = some (cl (CAR (TIM x y)),()):=by
 have hq:kE R (cl x) (cl y) = _:=call (A2C R L (cl x) (cl y))
 have:=(yJ (fun (o:List Nat) i=>vJ R L (cl x) (cl y) (List.replicate 5 0) (cl o) i) (fun i o=>wJ (stT x y i) 5 0 o) (fun i o=>BG5 i 0 o) 5
  (fun o=>(mH R (cl o)).bind fun r0=>some (r0.1,()))
  (fun o hs=>by
   have hq:vJ R L (cl x) (cl y) (List.replicate 5 0) (cl o) (5:Nat) = _:=round (by kernel_rfl) (AO8 R L (cl x) (cl y) (List.replicate 5 0) (cl o) (5:Nat))
   show vJ R L (cl x) (cl y) (List.replicate 5 0) (cl o) (5:Nat) = _
   rw [hq,show decide (((5:Nat):Int) < 5) = false from by decide]
   rfl)
  (fun o i hi hs=>by
   have hq:vJ R L (cl x) (cl y) (List.replicate 5 0) (cl o) (i:Nat) = _:=round (by kernel_rfl) (AO8 R L (cl x) (cl y) (List.replicate 5 0) (cl o) (i:Nat))
   obtain ⟨h1,h2⟩:=A0y x y (List.replicate 5 0) i hi hx hy o hs
   refine ⟨?_,h2⟩
   show vJ R L (cl x) (cl y) (List.replicate 5 0) (cl o) (i:Nat) = _
   rw [hq,show decide ((i:Int) < 5) = true from decide_eq_true (by omega)]
   simp only [cond_true]
   exact h1)
  (List.replicate 5 0) ⟨rfl,Bd.rep (by omega)⟩).1
 rw [hq]
 refine this.trans ?_
 rw [BQ3]
 show (mH R (cl (TIM x y))).bind _ = _
 rw [A1h _ (A9K x y) (A6O hx hy)]
 rfl
end Go.Rf.S

end
section
namespace Go.Rf.S
set_option maxRecDepth 100000
def bI (t:List UInt8):List Int:=t.map fun b=>(b.toNat:Int)
theorem BP5 (t:List UInt8):(bI t).length = t.length:=List.length_map _
theorem BV2 (t:List UInt8) (i:Nat):(bI t).getD i (0:Int) = ((bt t i:Nat):Int):=by
 unfold bI bt
 rw [List.getD_eq_getElem?_getD,List.getD_eq_getElem?_getD,List.getElem?_map]
 cases t[i]? <;> rfl
theorem A1Y:∀ (t:List UInt8) (i:Nat),leV t / 256 ^ i % 256 = bt t i
 | [],i=>by simp [leV,bt]
 | c :: cs,0=>by
  have:=c.toNat_lt
  simp only [leV,Nat.pow_zero,Nat.div_one]
  show _ = c.toNat
  omega
 | c :: cs,i + 1=>by
  have:=c.toNat_lt
  have ih:=A1Y cs i
  have e:leV (c :: cs) / 256 ^ (i + 1) = leV cs / 256 ^ i:=by
   rw [Nat.pow_succ,Nat.mul_comm,← Nat.div_div_eq_div_mul]
   congr 1
   simp only [leV]
   omega
  rw [e,ih]
  rfl
theorem BB9 {m s:Nat} (h:m < 2 ^ s):m ||| 2 ^ s = m + 2 ^ s:=by
 have:=Nat.two_pow_add_eq_or_of_lt h 1
 rw [Nat.mul_one] at this
 rw [Nat.or_comm,← this,Nat.add_comm]
theorem Bq8 {s:Nat} (h:s < 26):1 ≤ 2 ^ s ∧ 2 ^ s ≤ 33554432:=⟨Nat.one_le_two_pow,Nat.le_trans (Nat.pow_le_pow_right (by decide) (show s ≤ 25 by omega)) (by decide)⟩
theorem Bq5 {N q s:Nat} (hq:q < 5) (hs:s < 26) (hN:N < 2 ^ (26 * q + s)):(L5 N).set q ((L5 N).getD q 0 ||| 2 ^ s) = L5 (N + 2 ^ (26 * q + s)):=by
 have hp:=Bq8 hs
 rw [Nat.pow_add] at hN ⊢
 have e:∀ m,m < 2 ^ s → m ||| 2 ^ s = m + 2 ^ s:=fun m hm=>BB9 hm
 generalize 2 ^ s = P at hp hN e ⊢
 match q,hq with
 | 0,_=>
  rw [show 2 ^ (26 * 0) * P = P by simp] at hN ⊢
  show [(N % 67108864 ||| P),_,_,_,_] = L5 (N + P)
  rw [e _ (by omega)]
  unfold L5
  congr 1
  ·omega
  ·congr 1
   ·omega
   ·congr 1
    ·omega
    ·congr 1
     ·omega
     ·congr 1;omega
 | 1,_=>
  rw [show 2 ^ (26 * 1) * P = 67108864 * P from rfl] at hN ⊢
  show [_,(N / 67108864 % 67108864 ||| P),_,_,_] = L5 (N + 67108864 * P)
  rw [e _ (by omega)]
  unfold L5
  congr 1
  ·omega
  ·congr 1
   ·omega
   ·congr 1
    ·omega
    ·congr 1
     ·omega
     ·congr 1;omega
 | 2,_=>
  rw [show 2 ^ (26 * 2) * P = 4503599627370496 * P from rfl] at hN ⊢
  show [_,_,(N / 4503599627370496 % 67108864 ||| P),_,_] = L5 (N + 4503599627370496 * P)
  rw [e _ (by omega)]
  unfold L5
  congr 1
  ·omega
  ·congr 1
   ·omega
   ·congr 1
    ·omega
    ·congr 1
     ·omega
     ·congr 1;omega
 | 3,_=>
  rw [show 2 ^ (26 * 3) * P = 302231454903657293676544 * P from rfl] at hN ⊢
  show [_,_,_,(N / 302231454903657293676544 % 67108864 ||| P),_] = L5 (N + 302231454903657293676544 * P)
  rw [e _ (by omega)]
  unfold L5
  congr 1
  ·omega
  ·congr 1
   ·omega
   ·congr 1
    ·omega
    ·congr 1
     ·omega
     ·congr 1;omega
 | 4,_=>
  rw [show 2 ^ (26 * 4) * P = 20282409603651670423947251286016 * P from rfl] at hN ⊢
  show [_,_,_,_,(N / 20282409603651670423947251286016 % 67108864 ||| P)] = L5 (N + 20282409603651670423947251286016 * P)
  rw [e _ (by omega)]
  unfold L5
  congr 1
  ·omega
  ·congr 1
   ·omega
   ·congr 1
    ·omega
    ·congr 1
     ·omega
     ·congr 1;omega
theorem Ah2 (n:Nat):Bd 67108864 (L5 n):=bd5 (Nat.mod_lt _ (by decide)) (Nat.mod_lt _ (by decide)) (Nat.mod_lt _ (by decide)) (Nat.mod_lt _ (by decide)) (Nat.mod_lt _ (by decide))
theorem BO8 {t:List UInt8} {i b:Nat} (hb:b < 8):bt t i / 2 ^ b % 2 = leV t / 2 ^ (8 * i + b) % 2:=by
 rw [← A1Y,show (256:Nat) = 2 ^ 8 from rfl,← Nat.pow_mul]
 rw [Nat.pow_add,← Nat.div_div_eq_div_mul]
 generalize leV t / 2 ^ (8 * i) = m
 rw [show (2:Nat) ^ 8 = 2 ^ b * (2 * 2 ^ (7 - b)) by rw [← Nat.pow_succ',← Nat.pow_add];congr 1;omega,Nat.mod_mul_right_div_self,Nat.mod_mul_right_mod]
theorem A5C (n k:Nat):n % 2 ^ (k + 1) = n % 2 ^ k + (n / 2 ^ k % 2) * 2 ^ k:=by
 rw [Nat.mod_pow_succ,Nat.mul_comm (2 ^ k)]
theorem Bf3 {t:List UInt8} (hl:t.length ≤ 17) (hn:leV t < 1361129467683753853853498429727072845824) (i:Nat) (hi:i < t.length) (v2:List Int) (v9:List Int) (v10:Int):
  vI R L v2 (cl (L5 (leV t % 2 ^ (8 * i)))) (i:Int) ((bt t i:Nat):Int) v9 v10 (i:Int) (0:Int) = wR R L v2 (cl (L5 (leV t % 2 ^ (8 * (i + 1))))) v9 v10 ((i + 1:Nat):Int):=by
 have:=(yJ (fun (k:Nat) b=>vI R L v2 (cl (L5 (leV t % 2 ^ k))) (i:Int) ((bt t i:Nat):Int) v9 v10 (i:Int) b) (fun _ k=>k + 1) (fun b k=>k = 8 * i + b) 8
  (fun k=>wR R L v2 (cl (L5 (leV t % 2 ^ k))) v9 v10 ((i + 1:Nat):Int))
  (fun k hk=>by
   have hq:vI R L v2 (cl (L5 (leV t % 2 ^ k))) (i:Int) ((bt t i:Nat):Int) v9 v10 (i:Int) (8:Nat) = _:=round (by kernel_rfl) (AT1 R L v2 _ (i:Int) _ v9 v10 (i:Int) (8:Nat))
   show vI R L v2 (cl (L5 (leV t % 2 ^ k))) (i:Int) ((bt t i:Nat):Int) v9 v10 (i:Int) (8:Nat) = _
   rw [hq,show decide (((8:Nat):Int) < 8) = false from by decide]
   simp only [cond_false]
   rw [zB (i:=i) (by omega)])
  (fun k b hb hk=>by
   subst hk
   refine ⟨?_,rfl⟩
   have hq:vI R L v2 (cl (L5 (leV t % 2 ^ (8 * i + b)))) (i:Int) ((bt t i:Nat):Int) v9 v10 (i:Int) (b:Nat) = _:=round (by kernel_rfl) (AT1 R L v2 _ (i:Int) _ v9 v10 (i:Int) (b:Nat))
   show vI R L v2 (cl (L5 (leV t % 2 ^ (8 * i + b)))) (i:Int) ((bt t i:Nat):Int) v9 v10 (i:Int) (b:Nat) = vI R L v2 (cl (L5 (leV t % 2 ^ (8 * i + b + 1)))) (i:Int) ((bt t i:Nat):Int) v9 v10 (i:Int) ((b + 1:Nat):Int)
   have hbt:=rT t i
   have hdiv:bt t i / 2 ^ b < 256:=Nat.lt_of_le_of_lt (Nat.div_le_self _ _) hbt
   have hand:xH .and .u8 (((bt t i / 2 ^ b:Nat)):Int) 1 = ((bt t i / 2 ^ b % 2:Nat):Int):=by
    rw [show (1:Int) = ((1:Nat):Int) from rfl,AP8 (by simp only [sF];omega) (by decide),Nat.and_one_is_mod]
   have hmin:Min.min (Int.toNat (b:Int)) (IntKind.bits .u8) = b:=by rw [tn];show Nat.min b 8 = b;exact Nat.min_eq_left (by omega)
   rw [hq,show decide ((b:Int) < 8) = true from decide_eq_true (by omega),show decide ((b:Int) < 0) = false from decide_eq_false (by omega),hmin,jQ,hand,BO8 hb,zB (i:=b) (by omega)]
   simp only [cond_true,cond_false]
   rcases Nat.mod_two_eq_zero_or_one (leV t / 2 ^ (8 * i + b)) with h0 | h1
   ·rw [h0,A5C,h0,Nat.zero_mul,Nat.add_zero]
    rfl
   ·rw [h1,A5C,h1,Nat.one_mul]
    have hk:8 * i + b < 130:=by
     rcases Nat.lt_or_ge (8 * i + b) 130 with h | h
     ·exact h
     ·have:leV t / 2 ^ (8 * i + b) = 0:=Nat.div_eq_of_lt (Nat.lt_of_lt_of_le hn (Nat.le_trans (by decide) (Nat.pow_le_pow_right (by decide) h)))
      rw [this] at h1;simp at h1
    have e8:IntKind.wrap .i64 (IntKind.wrap .i64 (8 * (i:Int)) + (b:Int)) = ((8 * i + b:Nat):Int):=by
     rw [show (8:Int) = ((8:Nat):Int) from rfl,gC (by simp only [sF];omega),vO (by simp only [sF];omega)]
    have et:Int.tdiv ((8 * i + b:Nat):Int) 26 = (((8 * i + b) / 26:Nat):Int):=rfl
    have em:Int.tmod ((8 * i + b:Nat):Int) 26 = (((8 * i + b) % 26:Nat):Int):=rfl
    rw [e8,et,em,sO (by omega),nn,tn,yB (n:=5) (by omega),show decide ((((8 * i + b) % 26:Nat):Int) < 0) = false from decide_eq_false (by omega),tn]
    rw [show eqI ((1:Nat):Int) 1 = true from rfl]
    simp only [cond_true,cond_false]
    have hs:(8 * i + b) % 26 < 26:=Nat.mod_lt _ (by decide)
    have hp:=Bq8 hs
    have hm2:Min.min ((8 * i + b) % 26) (IntKind.bits .u64) = (8 * i + b) % 26:=Nat.min_eq_left (by show _ ≤ 64;omega)
    have hw:IntKind.wrap .u64 (1 * 2 ^ ((8 * i + b) % 26)) = ((2 ^ ((8 * i + b) % 26):Nat):Int):=by
     rw [Int.one_mul,show (2 ^ ((8 * i + b) % 26):Int) = ((2 ^ ((8 * i + b) % 26):Nat):Int) from by simp,AW0 (by simp only [sF];omega)]
    have hg:=(Ah2 (leV t % 2 ^ (8 * i + b))).get (by decide) ((8 * i + b) / 26)
    rw [hm2,hw,yG,Ag7 (by simp only [sF];omega) (by simp only [sF];omega),tI,Bq5 (by omega) hs (by
     rw [Nat.div_add_mod];exact Nat.mod_lt _ (Nat.two_pow_pos _)),Nat.div_add_mod])
  (8 * i) (by omega)).1
 exact this
theorem Al8 (t:List UInt8) (hl:t.length ≤ 17) (hn:leV t < 1361129467683753853853498429727072845824):iB R t = some (cl (L5 (leV t)),()):=by
 have hq:iB R t = _:=call (A4P R L t)
 have:=(yJ (fun (k:Nat) i=>wR R L (List.replicate 5 0) (cl (L5 (leV t % 2 ^ k))) (bI t) (t.length:Nat) i) (fun _ k=>k + 8) (fun i k=>k = 8 * i) t.length
  (fun k=>some (cl (L5 (leV t)),()))
  (fun k hk=>by
   subst hk
   have hq:wR R L (List.replicate 5 0) (cl (L5 (leV t % 2 ^ (8 * t.length)))) (bI t) (t.length:Nat) (t.length:Nat) = _:=round (by kernel_rfl) (AV3 R L (List.replicate 5 0) _ (bI t) (t.length:Nat) (t.length:Nat))
   show wR R L (List.replicate 5 0) (cl (L5 (leV t % 2 ^ (8 * t.length)))) (bI t) (t.length:Nat) (t.length:Nat) = _
   rw [hq,AG7 (Nat.le_refl _)]
   have:=A51 t
   rw [show (256:Nat) = 2 ^ 8 from rfl,← Nat.pow_mul] at this
   rw [Nat.mod_eq_of_lt this]
   rfl)
  (fun k i hi hk=>by
   subst hk
   refine ⟨?_,by omega⟩
   have hq:wR R L (List.replicate 5 0) (cl (L5 (leV t % 2 ^ (8 * i)))) (bI t) (t.length:Nat) (i:Nat) = _:=round (by kernel_rfl) (AV3 R L (List.replicate 5 0) _ (bI t) (t.length:Nat) (i:Nat))
   show wR R L (List.replicate 5 0) (cl (L5 (leV t % 2 ^ (8 * i)))) (bI t) (t.length:Nat) (i:Nat) = wR R L (List.replicate 5 0) (cl (L5 (leV t % 2 ^ (8 * i + 8)))) (bI t) (t.length:Nat) ((i + 1:Nat):Int)
   rw [hq,AE5 hi,nn,tn,yB (by rw [BP5];exact hi),BV2]
   simp only [cond_true]
   exact Bf3 hl hn i hi _ _ _)
  0 rfl).1
 rw [hq]
 show wR R L (List.replicate 5 0) (List.replicate 5 0) (bI t) ((bI t).length:Nat) 0 = _
 rw [BP5]
 refine Eq.trans ?_ this
 rw [Nat.pow_zero,Nat.mod_one]
 rfl
end Go.Rf.S

end
section
namespace Go.Rf.S
set_option maxRecDepth 100000
def stP (t:List UInt8) (i:Nat) (o:List Nat):List Nat:=
 let o1:=o.set (8 * i / 26) (o.getD (8 * i / 26) 0 + bt t i * 2 ^ (8 * i % 26) % 67108864)
 if 18 < 8 * i % 26 ∧ 8 * i / 26 < 4 then o1.set (8 * i / 26 + 1) (o1.getD (8 * i / 26 + 1) 0 + bt t i / 2 ^ (26 - 8 * i % 26)) else o1
theorem sh2 (b:Nat):b * 16777216 % 67108864 + 67108864 * (b / 4) = b * 16777216:=by
 rw [show (67108864:Nat) = 4 * 16777216 from rfl,Nat.mul_mod_mul_right]
 omega
theorem sh4 (b:Nat):b * 4194304 % 67108864 + 67108864 * (b / 16) = b * 4194304:=by
 rw [show (67108864:Nat) = 16 * 4194304 from rfl,Nat.mul_mod_mul_right]
 omega
theorem sh6 (b:Nat):b * 1048576 % 67108864 + 67108864 * (b / 64) = b * 1048576:=by
 rw [show (67108864:Nat) = 64 * 1048576 from rfl,Nat.mul_mod_mul_right]
 omega
theorem A8u (b0 b1 b2 b3 b4 b5 b6 b7 b8 b9 b10 b11 b12 b13 b14 b15 b16 x3 x6 x9 y3 y6 y9:Nat) (e3:x3 + 67108864 * y3 = b3 * 16777216) (e6:x6 + 67108864 * y6 = b6 * 4194304) (e9:x9 + 67108864 * y9 = b9 * 1048576):
  val (0 + b0 * 1 + b1 * 256 + b2 * 65536 + x3) (0 + y3 + b4 * 64 + b5 * 16384 + x6) (0 + y6 + b7 * 16 + b8 * 4096 + x9) (0 + y9 + b10 * 4 + b11 * 1024 + b12 * 262144) (0 + b13 * 1 + b14 * 256 + b15 * 65536 + b16 * 16777216) =
  b0 + 256 * (b1 + 256 * (b2 + 256 * (b3 + 256 * (b4 + 256 * (b5 + 256 * (b6 + 256 * (b7 + 256 * (b8 + 256 * (b9 + 256 * (b10 + 256 * (b11 + 256 * (b12 + 256 * (b13 + 256 * (b14 + 256 * (b15 + 256 * (b16 + 256 * 0)))))))))))))))):=by
 unfold val
 omega
theorem A9v {b0 b1 b2 b3 b4 b5 b6 b7 b8 b9 b10 b11 b12 b13 b14 b15 b16 : Nat} (h0 : b0 < 256) (h1 : b1 < 256) (h2 : b2 < 256) (h3 : b3 < 256) (h4 : b4 < 256) (h5 : b5 < 256) (h6 : b6 < 256) (h7 : b7 < 256) (h8 : b8 < 256) (h9 : b9 < 256) (h10 : b10 < 256) (h11 : b11 < 256) (h12 : b12 < 256) (h13 : b13 < 256) (h14 : b14 < 256) (h15 : b15 < 256) (h16 : b16 < 4) :
    [0 + b0 * 1 % 67108864 + b1 * 256 % 67108864 + b2 * 65536 % 67108864 + b3 * 16777216 % 67108864,
     0 + b3 / 4 + b4 * 64 % 67108864 + b5 * 16384 % 67108864 + b6 * 4194304 % 67108864,
     0 + b6 / 16 + b7 * 16 % 67108864 + b8 * 4096 % 67108864 + b9 * 1048576 % 67108864,
     0 + b9 / 64 + b10 * 4 % 67108864 + b11 * 1024 % 67108864 + b12 * 262144 % 67108864,
     0 + b13 * 1 % 67108864 + b14 * 256 % 67108864 + b15 * 65536 % 67108864 + b16 * 16777216 % 67108864] =
    L5 (b0 + 256 * (b1 + 256 * (b2 + 256 * (b3 + 256 * (b4 + 256 * (b5 + 256 * (b6 + 256 * (b7 + 256 * (b8 + 256 * (b9 + 256 * (b10 + 256 * (b11 + 256 * (b12 + 256 * (b13 + 256 * (b14 + 256 * (b15 + 256 * (b16 + 256 * 0))))))))))))))))) := by
  have v : val (0 + b0 * 1 % 67108864 + b1 * 256 % 67108864 + b2 * 65536 % 67108864 + b3 * 16777216 % 67108864) (0 + b3 / 4 + b4 * 64 % 67108864 + b5 * 16384 % 67108864 + b6 * 4194304 % 67108864)
     (0 + b6 / 16 + b7 * 16 % 67108864 + b8 * 4096 % 67108864 + b9 * 1048576 % 67108864) (0 + b9 / 64 + b10 * 4 % 67108864 + b11 * 1024 % 67108864 + b12 * 262144 % 67108864)
     (0 + b13 * 1 % 67108864 + b14 * 256 % 67108864 + b15 * 65536 % 67108864 + b16 * 16777216 % 67108864) =
    b0 + 256 * (b1 + 256 * (b2 + 256 * (b3 + 256 * (b4 + 256 * (b5 + 256 * (b6 + 256 * (b7 + 256 * (b8 + 256 * (b9 + 256 * (b10 + 256 * (b11 + 256 * (b12 + 256 * (b13 + 256 * (b14 + 256 * (b15 + 256 * (b16 + 256 * 0)))))))))))))))) := by
    rw [Nat.mod_eq_of_lt (a := b0 * 1) (by omega), Nat.mod_eq_of_lt (a := b1 * 256) (by omega), Nat.mod_eq_of_lt (a := b2 * 65536) (by omega), Nat.mod_eq_of_lt (a := b4 * 64) (by omega), Nat.mod_eq_of_lt (a := b5 * 16384) (by omega), Nat.mod_eq_of_lt (a := b7 * 16) (by omega), Nat.mod_eq_of_lt (a := b8 * 4096) (by omega), Nat.mod_eq_of_lt (a := b10 * 4) (by omega), Nat.mod_eq_of_lt (a := b11 * 1024) (by omega), Nat.mod_eq_of_lt (a := b12 * 262144) (by omega), Nat.mod_eq_of_lt (a := b13 * 1) (by omega), Nat.mod_eq_of_lt (a := b14 * 256) (by omega), Nat.mod_eq_of_lt (a := b15 * 65536) (by omega), Nat.mod_eq_of_lt (a := b16 * 16777216) (by omega)]
    exact A8u _ _ _ _ _ _ _ _ _ _ _ _ _ _ _ _ _ _ _ _ _ _ _ (sh2 b3) (sh4 b6) (sh6 b9)
  rw [← v]
  refine (BI5 ?_ ?_ ?_ ?_ ?_).symm <;> omega
theorem Bo4 {t:List UInt8} (h:t.length = 17):leV t = bt t 0 + 256 * (bt t 1 + 256 * (bt t 2 + 256 * (bt t 3 + 256 * (bt t 4 + 256 * (bt t 5 + 256 * (bt t 6 + 256 * (bt t 7 + 256 * (bt t 8 + 256 * (bt t 9 + 256 * (bt t 10 + 256 * (bt t 11 + 256 * (bt t 12 + 256 * (bt t 13 + 256 * (bt t 14 + 256 * (bt t 15 + 256 * (bt t 16 + 256 * 0)))))))))))))))):=by
 match t,h with
 | [a,b,c,d,e,f,g,h,i,j,k,l,m,n,o,p,q],_=>rfl
theorem A1x (t:List UInt8) (hl:t.length = 17) (h16:bt t 16 < 4):kI R t = some (cl (L5 (leV t)),()):=by
 have hq:kI R t = _:=call (A3d R L t)
 have:=(yJ (fun (o:List Nat) i=>vL R L t (List.replicate 5 0) (cl o) i) (stP t) (fun i o=>o.length = 5 ∧ Bd (1 + i * 134217728) o) 17
  (fun o=>some (cl o,()))
  (fun o hs=>by
   have hq:vL R L t (List.replicate 5 0) (cl o) (17:Nat) = _:=round (by kernel_rfl) (AN7 R L t (List.replicate 5 0) (cl o) (17:Nat))
   show vL R L t (List.replicate 5 0) (cl o) (17:Nat) = _
   rw [hq,show decide (((17:Nat):Int) < 17) = false from by decide]
   rfl)
  (fun o i hi hs=>by
   have hq:vL R L t (List.replicate 5 0) (cl o) (i:Nat) = _:=round (by kernel_rfl) (AN7 R L t (List.replicate 5 0) (cl o) (i:Nat))
   have hb:=rT t i
   have hpos:0 < 1 + i * 134217728:=by omega
   have hg:=hs.2.get hpos (8 * i / 26)
   have hg1:=hs.2.get hpos (8 * i / 26 + 1)
   have hm:=Nat.mod_lt (bt t i * 2 ^ (8 * i % 26)) (show 0 < 67108864 by decide)
   have hd:bt t i / 2 ^ (26 - 8 * i % 26) ≤ bt t i:=Nat.div_le_self _ _
   have hmono:Bd (1 + (i + 1) * 134217728) o:=fun z hz=>Nat.lt_of_lt_of_le (hs.2 z hz) (by omega)
   refine ⟨?_,?_⟩
   ·show vL R L t (List.replicate 5 0) (cl o) (i:Nat) = _
    have e8:IntKind.wrap .i64 (8 * (i:Int)) = ((8 * i:Nat):Int):=by rw [show (8:Int) = ((8:Nat):Int) from rfl,gC (by simp only [sF];omega)]
    have et:Int.tdiv ((8 * i:Nat):Int) 26 = ((8 * i / 26:Nat):Int):=rfl
    have em:Int.tmod ((8 * i:Nat):Int) 26 = ((8 * i % 26:Nat):Int):=rfl
    have hs26:8 * i % 26 < 26:=Nat.mod_lt _ (by decide)
    have hp:=Bq8 hs26
    have hmul:bt t i * 2 ^ (8 * i % 26) ≤ 255 * 33554432:=Nat.mul_le_mul (by omega) hp.2
    have hmn:Min.min (8 * i % 26) (IntKind.bits .i64) = 8 * i % 26:=Nat.min_eq_left (by show _ ≤ 64;omega)
    have hw0:IntKind.wrap .i64 ((UInt8.toNat (t.getD i 0):Nat):Int) = ((bt t i:Nat):Int):=sO (by show bt t i < _;omega)
    have hsh:IntKind.wrap .i64 (((bt t i:Nat):Int) * 2 ^ (8 * i % 26)) = ((bt t i * 2 ^ (8 * i % 26):Nat):Int):=by rw [A7V,sO (by omega)]
    rw [hq,show decide ((i:Int) < 17) = true from decide_eq_true (by omega),e8,et,em,sO (n:=8 * i / 26) (by omega)]
    simp only [nn,tn]
    rw [yB (n:=t.length) (by omega),yB (n:=5) (show 8 * i / 26 < 5 by omega),show decide (((8 * i % 26:Nat):Int) < 0) = false from decide_eq_false (by omega),hmn,hw0,hsh,m26 (by simp only [sF];omega) (by decide),yG,vO (by simp only [sF];omega),tI,zB (i:=i) (by omega)]
    simp only [cond_true,cond_false]
    unfold stP
    by_cases h18:18 < 8 * i % 26
    ·rw [show decide ((18:Int) < ((8 * i % 26:Nat):Int)) = true from decide_eq_true (by omega)]
     simp only [cond_true]
     by_cases h4:8 * i / 26 < 4
     ·rw [show decide (((8 * i / 26:Nat):Int) < 4) = true from decide_eq_true (by omega),zB (i:=8 * i / 26) (by omega)]
      simp only [cond_true,nn,tn]
      have e26:IntKind.wrap .i64 (26 - ((8 * i % 26:Nat):Int)) = ((26 - 8 * i % 26:Nat):Int):=by rw [zH (by omega) (by omega)];omega
      have hmn2:Min.min (26 - 8 * i % 26) (IntKind.bits .i64) = 26 - 8 * i % 26:=Nat.min_eq_left (by show _ ≤ 64;omega)
      rw [yB (n:=5) (show 8 * i / 26 + 1 < 5 by omega),e26,show decide (((26 - 8 * i % 26:Nat):Int) < 0) = false from decide_eq_false (by omega),tn,hmn2,jQ,yG,nJ (by omega),vO (by simp only [sF];omega),tI,if_pos ⟨h18,h4⟩]
      simp only [cond_true,cond_false]
      first | done | rw [nJ (by omega)]
     ·rw [show decide (((8 * i / 26:Nat):Int) < 4) = false from decide_eq_false (by omega),if_neg (fun h=>h4 h.2)]
      rfl
    ·rw [show decide ((18:Int) < ((8 * i % 26:Nat):Int)) = false from decide_eq_false (by omega),if_neg (fun h=>h18 h.1)]
     rfl
   ·unfold stP
    simp only
    split
    ·exact ⟨by simp [hs.1],(hmono.set (by omega)).set (by rw [nJ (by omega)];omega)⟩
    ·exact ⟨by simp [hs.1],hmono.set (by omega)⟩)
  (List.replicate 5 0) ⟨rfl,Bd.rep (by omega)⟩).1
 rw [hq]
 refine this.trans ?_
 rw [Bo4 hl,← A9v (rT _ _) (rT _ _) (rT _ _) (rT _ _) (rT _ _) (rT _ _) (rT _ _) (rT _ _) (rT _ _) (rT _ _) (rT _ _) (rT _ _) (rT _ _) (rT _ _) (rT _ _) (rT _ _) h16]
 kernel_rfl
end Go.Rf.S

end
section
namespace Go.Rf.S
set_option maxRecDepth 100000
def ADD (x y:List Nat):List Nat:=[x.getD 0 0 + y.getD 0 0,x.getD 1 0 + y.getD 1 0,x.getD 2 0 + y.getD 2 0,x.getD 3 0 + y.getD 3 0,x.getD 4 0 + y.getD 4 0]
def Bd8 (y:List Nat) (i:Nat) (x:List Nat):List Nat:=x.set i (x.getD i 0 + y.getD i 0)
theorem BP7 (x y:List Nat) (h:x.length = 5):wJ (Bd8 y) 5 0 x = ADD x y:=by
 match x,h with
 | [a,b,c,d,e],_=>rfl
theorem BS7 (x y:List Nat):vl (ADD x y) = vl x + vl y:=by
 show val _ _ _ _ _ = val _ _ _ _ _ + val _ _ _ _ _
 unfold val
 simp only [ADD,List.getD_cons_zero,List.getD_cons_succ]
 omega
theorem BA9 {x y:List Nat} (hx:Bd 67108864 x) (hy:Bd 67108864 y):Bd 134217728 (ADD x y):=by
 have g:=fun i=>hx.get (by decide) i
 have k:=fun i=>hy.get (by decide) i
 have g0:=g 0;have g1:=g 1;have g2:=g 2;have g3:=g 3;have g4:=g 4
 have k0:=k 0;have k1:=k 1;have k2:=k 2;have k3:=k 3;have k4:=k 4
 exact bd5 (by omega) (by omega) (by omega) (by omega) (by omega)
def Bh3 (x0:List Nat) (i:Nat) (x:List Nat):Prop:=x.length = 5 ∧ ∀ j,i ≤ j → x.getD j 0 = x0.getD j 0
theorem Bh3.step {x0 y x:List Nat} {i:Nat} (h:Bh3 x0 i x):Bh3 x0 (i + 1) (Bd8 y i x):=⟨by simp [Bd8,h.1],fun j hj=>by
 unfold Bd8
 rw [nJ (by omega)];exact h.2 j (by omega)⟩
theorem BO4 (x y:List Nat) (hl:x.length = 5) (hx:Bd 67108864 x) (hy:Bd 67108864 y):hO R (cl x) (cl y) = some (cl (CAR (ADD x y)),()):=by
 have hq:hO R (cl x) (cl y) = _:=call (Av0 R L (cl x) (cl y))
 have:=(yJ (fun (z:List Nat) i=>vV R L (cl z) (cl y) (List.replicate 5 0) i) (Bd8 y) (Bh3 x) 5
  (fun z=>(wF R (cl z)).bind fun r0=>some (r0.1,()))
  (fun z hs=>by
   have hq:vV R L (cl z) (cl y) (List.replicate 5 0) (5:Nat) = _:=round (by kernel_rfl) (AC1 R L (cl z) (cl y) (List.replicate 5 0) (5:Nat))
   show vV R L (cl z) (cl y) (List.replicate 5 0) (5:Nat) = _
   rw [hq,show decide (((5:Nat):Int) < 5) = false from by decide]
   rfl)
  (fun z i hi hs=>by
   have hq:vV R L (cl z) (cl y) (List.replicate 5 0) (i:Nat) = _:=round (by kernel_rfl) (AC1 R L (cl z) (cl y) (List.replicate 5 0) (i:Nat))
   refine ⟨?_,hs.step⟩
   show vV R L (cl z) (cl y) (List.replicate 5 0) (i:Nat) = _
   have hg:=hx.get (by decide) i
   have hk:=hy.get (by decide) i
   have he:=hs.2 i (Nat.le_refl _)
   rw [hq,show decide ((i:Int) < 5) = true from decide_eq_true (by omega)]
   simp only [nn,tn]
   rw [yB (n:=5) hi,yG,yG,vO (by simp only [sF];omega),tI,zB (i:=i) (by omega)]
   rfl)
  x ⟨hl,fun _ _=>rfl⟩).1
 rw [hq]
 refine this.trans ?_
 rw [BP7 _ _ hl]
 show (wF R (cl (ADD x y))).bind _ = _
 rw [AR5 _ rfl (fun z hz=>Nat.lt_of_lt_of_le (BA9 hx hy z hz) (by decide))]
 rfl
theorem BG9 (x y:List Nat) (hl:x.length = 5) (hx:Bd 67108864 x) (hy:Bd 67108864 y) (v0 v1:List UInt8) (v5:List Int) (v7:Int):
  tV R L v0 v1 v5 (cl x) v7 (cl y) (0:Int) = (kE R (cl (ADD x y)) v5).bind fun r0=>rA R L v0 v1 v5 r0.1 (IntKind.wrap .i64 (v7 + 16)):=by
 have:=(yJ (fun (z:List Nat) i=>tV R L v0 v1 v5 (cl z) v7 (cl y) i) (Bd8 y) (Bh3 x) 5
  (fun z=>(kE R (cl z) v5).bind fun r0=>rA R L v0 v1 v5 r0.1 (IntKind.wrap .i64 (v7 + 16)))
  (fun z hs=>by
   have hq:tV R L v0 v1 v5 (cl z) v7 (cl y) (5:Nat) = _:=round (by kernel_rfl) (Ad8 R L v0 v1 v5 (cl z) v7 (cl y) (5:Nat))
   show tV R L v0 v1 v5 (cl z) v7 (cl y) (5:Nat) = _
   rw [hq,show decide (((5:Nat):Int) < 5) = false from by decide]
   rfl)
  (fun z i hi hs=>by
   have hq:tV R L v0 v1 v5 (cl z) v7 (cl y) (i:Nat) = _:=round (by kernel_rfl) (Ad8 R L v0 v1 v5 (cl z) v7 (cl y) (i:Nat))
   refine ⟨?_,hs.step⟩
   show tV R L v0 v1 v5 (cl z) v7 (cl y) (i:Nat) = _
   have hg:=hx.get (by decide) i
   have hk:=hy.get (by decide) i
   have he:=hs.2 i (Nat.le_refl _)
   rw [hq,show decide ((i:Int) < 5) = true from decide_eq_true (by omega)]
   simp only [nn,tn]
   rw [yB (n:=5) hi,yG,yG,vO (by simp only [sF];omega),tI,zB (i:=i) (by omega)]
   rfl)
  x ⟨hl,fun _ _=>rfl⟩).1
 refine this.trans ?_
 rw [BP7 _ _ hl]
def RED (x:List Nat):List Nat:=if PP ≤ vl x then L5 (vl x - PP) else x
theorem BR0 {x:List Nat} (h:Can x):RED x = L5 (if PP ≤ vl x then vl x - PP else vl x):=by
 unfold RED
 split
 ·rfl
 ·have g:=fun i=>h.b.get (by decide) i
  exact (A7a h.l).trans (BI5 (g 0) (g 1) (g 2) (g 3) (g 4)).symm
theorem Bl6 {x:List Nat} (h:Can x):vl x < 1361129467683753853853498429727072845824:=by
 have g:=fun i=>h.b.get (by decide) i
 exact Bh6 (g 0) (g 1) (g 2) (g 3) (g 4)
def lst:List Nat:=[67108859,67108863,67108863,67108863,67108863]
theorem BO1 (x:List Nat) (hx:Can x) (v2:List Int) (i:Nat) (hi:i < 5):xM R L (cl x) v2 (cl lst) (i:Int) =
  if x.getD i 0 = lst.getD i 0 then xM R L (cl x) v2 (cl lst) ((i:Int) - 1) else if x.getD i 0 < lst.getD i 0 then some (cl x,()) else zV R L (cl x) v2 (cl lst) 0:=by
 have hq:xM R L (cl x) v2 (cl lst) (i:Int) = _:=round (by kernel_rfl) (eX R L (cl x) v2 (cl lst) (i:Int))
 rw [hq,show decide ((0:Int) ≤ (i:Int)) = true from decide_eq_true (by omega),zH (n:=(i:Int) - 1) (by omega) (by omega)]
 simp only [nn,tn]
 rw [yB (n:=5) hi,yG,yG,vK]
 simp only [cond_true]
 by_cases h:x.getD i 0 = lst.getD i 0
 ·rw [if_pos h,h];simp
 ·rw [if_neg h,show decide (((x.getD i 0:Nat):Int) = ((lst.getD i 0:Nat):Int)) = false from decide_eq_false (by omega)]
  simp only [Bool.not_false,cond_true]
  by_cases h2:x.getD i 0 < lst.getD i 0
  ·rw [if_pos h2,show decide (((x.getD i 0:Nat):Int) < ((lst.getD i 0:Nat):Int)) = true from decide_eq_true (by omega)];rfl
  ·rw [if_neg h2,show decide (((x.getD i 0:Nat):Int) < ((lst.getD i 0:Nat):Int)) = false from decide_eq_false (by omega)];rfl
theorem Bf2 (l:List Nat) (a b c d e:Nat):wJ (fun i (z:List Nat)=>z.set i (z.getD i 0 - l.getD i 0)) 5 0 [a,b,c,d,e] = [a - l.getD 0 0,b - l.getD 1 0,c - l.getD 2 0,d - l.getD 3 0,e - l.getD 4 0]:=rfl
theorem BW3 (a:Nat) (ha:a < 67108864) (h:67108859 ≤ a) (v2:List Int):zV R L (cl [a,67108863,67108863,67108863,67108863]) v2 (cl lst) (0:Int) = some (cl [a - 67108859,0,0,0,0],()):=by
 have:=(yJ (fun (z:List Nat) i=>zV R L (cl z) v2 (cl lst) i) (fun i z=>z.set i (z.getD i 0 - lst.getD i 0)) (fun i z=>z.length = 5 ∧ ∀ j,i ≤ j → z.getD j 0 = [a,67108863,67108863,67108863,67108863].getD j 0) 5
  (fun z=>some (cl z,()))
  (fun z hs=>by
   have hq:zV R L (cl z) v2 (cl lst) (5:Nat) = _:=round (by kernel_rfl) (eO R L (cl z) v2 (cl lst) (5:Nat))
   show zV R L (cl z) v2 (cl lst) (5:Nat) = _
   rw [hq,show decide (((5:Nat):Int) < 5) = false from by decide]
   rfl)
  (fun z i hi hs=>by
   have hq:zV R L (cl z) v2 (cl lst) (i:Nat) = _:=round (by kernel_rfl) (eO R L (cl z) v2 (cl lst) (i:Nat))
   refine ⟨?_,by simp [hs.1],fun j hj=>by rw [nJ (by omega)];exact hs.2 j (by omega)⟩
   show zV R L (cl z) v2 (cl lst) (i:Nat) = _
   have he:=hs.2 i (Nat.le_refl _)
   have hge:lst.getD i 0 ≤ z.getD i 0 ∧ z.getD i 0 < 67108864:=by
    rw [he]
    match i,hi with
    | 0,_=>exact ⟨h,ha⟩
    | 1,_=>exact ⟨Nat.le_refl 67108863,(by decide:(67108863:Nat) < 67108864)⟩
    | 2,_=>exact ⟨Nat.le_refl 67108863,(by decide:(67108863:Nat) < 67108864)⟩
    | 3,_=>exact ⟨Nat.le_refl 67108863,(by decide:(67108863:Nat) < 67108864)⟩
    | 4,_=>exact ⟨Nat.le_refl 67108863,(by decide:(67108863:Nat) < 67108864)⟩
   rw [hq,show decide ((i:Int) < 5) = true from decide_eq_true (by omega)]
   simp only [nn,tn]
   rw [yB (n:=5) hi,yG,yG,show ((z.getD i 0:Nat):Int) - ((lst.getD i 0:Nat):Int) = ((z.getD i 0 - lst.getD i 0:Nat):Int) from by omega,AW0 (by simp only [sF];omega),tI,zB (i:=i) (by omega)]
   simp only [cond_true])
  [a,67108863,67108863,67108863,67108863] ⟨rfl,fun _ _=>rfl⟩).1
 refine this.trans ?_
 have:=Bf2 lst a 67108863 67108863 67108863 67108863
 rw [this,show lst.getD 0 0 = 67108859 from rfl,show lst.getD 1 0 = 67108863 from rfl,show lst.getD 2 0 = 67108863 from rfl,show lst.getD 3 0 = 67108863 from rfl,show lst.getD 4 0 = 67108863 from rfl,Nat.sub_self]
theorem A4l (x:List Nat) (hx:Can x):mN R (cl x) = some (cl (RED x),()):=by
 have hq:mN R (cl x) = _:=call (AY2 R L (cl x))
 rw [hq,AR5 x hx.l (fun z hz=>Nat.lt_of_lt_of_le (hx.b z hz) (by decide)),BT0 hx]
 simp only [Option.bind_some]
 have g:=fun i=>hx.b.get (by decide) i
 have hl:=A7a hx.l
 have r:=fun i hi=>BO1 x hx (List.replicate 5 0) i hi
 show xM R L (cl x) (List.replicate 5 0) (cl lst) ((4:Nat):Int) = _
 generalize ha:x.getD 0 0 = a at *
 generalize hb:x.getD 1 0 = b at *
 generalize hc:x.getD 2 0 = c at *
 generalize hd:x.getD 3 0 = d at *
 generalize he:x.getD 4 0 = e at *
 have ga:a < 67108864:=ha ▸ g 0
 have gb:b < 67108864:=hb ▸ g 1
 have gc:c < 67108864:=hc ▸ g 2
 have gd:d < 67108864:=hd ▸ g 3
 have ge:e < 67108864:=he ▸ g 4
 have hv:vl x = val a b c d e:=by rw [hl];rfl
 have small:val a b c d e < PP → some (cl x,()) = some (cl (RED x),()):=fun h=>by
  unfold RED
  rw [if_neg (by rw [hv];omega)]
 have end_:∀ z v2 v3,xM R L z v2 v3 (-1) = zV R L z v2 v3 0:=fun z v2 v3=>by
  have hq:xM R L z v2 v3 (-1) = _:=round (by kernel_rfl) (eX R L z v2 v3 (-1))
  rw [hq];rfl
 rw [r 4 (by decide),he]
 show (if e = 67108863 then _ else if e < 67108863 then _ else _) = _
 by_cases h4:e = 67108863
 ·rw [if_pos h4,show ((4:Nat):Int) - 1 = ((3:Nat):Int) from rfl,r 3 (by decide),hd]
  show (if d = 67108863 then _ else if d < 67108863 then _ else _) = _
  by_cases h3:d = 67108863
  ·rw [if_pos h3,show ((3:Nat):Int) - 1 = ((2:Nat):Int) from rfl,r 2 (by decide),hc]
   show (if c = 67108863 then _ else if c < 67108863 then _ else _) = _
   by_cases h2:c = 67108863
   ·rw [if_pos h2,show ((2:Nat):Int) - 1 = ((1:Nat):Int) from rfl,r 1 (by decide),hb]
    show (if b = 67108863 then _ else if b < 67108863 then _ else _) = _
    by_cases h1:b = 67108863
    ·rw [if_pos h1,show ((1:Nat):Int) - 1 = ((0:Nat):Int) from rfl,r 0 (by decide),ha,show ((0:Nat):Int) - 1 = -1 from rfl,end_]
     show (if a = 67108859 then _ else if a < 67108859 then _ else _) = _
     have big:67108859 ≤ a → zV R L (cl x) (List.replicate 5 0) (cl lst) 0 = some (cl (RED x),()):=fun h=>by
      have hx':x = [a,67108863,67108863,67108863,67108863]:=by rw [hl,h1,h2,h3,h4]
      have hv2:vl x = PP + (a - 67108859):=by rw [hv,h1,h2,h3,h4];unfold val PP;omega
      have hr:RED x = [a - 67108859,0,0,0,0]:=by
       unfold RED
       rw [if_pos (by omega),hv2,Nat.add_sub_cancel_left]
       have:=BI5 (a:=a - 67108859) (b:=0) (c:=0) (d:=0) (e:=0) (by omega) (by decide) (by decide) (by decide) (by decide)
       rw [← this,show val (a - 67108859) 0 0 0 0 = a - 67108859 from by unfold val;omega]
      rw [hr,hx']
      exact BW3 a ga h _
     by_cases h0:a = 67108859
     ·rw [if_pos h0];exact big (by omega)
     ·rw [if_neg h0]
      by_cases h0':a < 67108859
      ·rw [if_pos h0'];exact small (by unfold val PP;omega)
      ·rw [if_neg h0'];exact big (by omega)
    ·rw [if_neg h1,if_pos (by omega)];exact small (by unfold val PP;omega)
   ·rw [if_neg h2,if_pos (by omega)];exact small (by unfold val PP;omega)
  ·rw [if_neg h3,if_pos (by omega)];exact small (by unfold val PP;omega)
 ·rw [if_neg h4,if_pos (by omega)];exact small (by unfold val PP;omega)
end Go.Rf.S

end
section
namespace Go.Rf.S
set_option maxRecDepth 100000
theorem Bb8 (a b c d e:Nat):wJ Bi8 4 0 [a,b,c,d,e] = [a % 67108864,(b + a / 67108864) % 67108864,(c + (b + a / 67108864) / 67108864) % 67108864,(d + (c + (b + a / 67108864) / 67108864) / 67108864) % 67108864,e + (d + (c + (b + a / 67108864) / 67108864) / 67108864) / 67108864]:=rfl
theorem BJ2 (x:List Nat) (hx:Can x):AB4 R (cl x) = some (cl (RED x),()):=by
 have hq:AB4 R (cl x) = _:=call (A3u R L (cl x))
 have g:=fun i=>hx.b.get (by decide) i
 have g0:=g 0;have g1:=g 1;have g2:=g 2;have g3:=g 3;have g4:=g 4
 have hl:=A7a hx.l
 have e0:(cl x).set (Int.toNat 0) (IntKind.wrap .i64 ((cl x).getD (Int.toNat 0) 0 + 5)) = cl (x.set 0 (x.getD 0 0 + 5)):=by
  rw [show Int.toNat 0 = 0 from rfl,yG,show (5:Int) = ((5:Nat):Int) from rfl,vO (by simp only [sF];omega),tI]
 have:=(yJ (fun (z:List Nat) i=>rF R L (cl x) (List.replicate 5 0) (cl z) i) Bi8
  (fun i z=>z.length = 5 ∧ Bd (134217728 + i * 1099511627776) z) 4
  (fun z=>cond (eqI ((z.getD 4 0 / 67108864:Nat):Int) 0) (some (cl x,())) (some (cl (z.set 4 (z.getD 4 0 % 67108864)),())))
  (fun z hs=>by
   obtain ⟨h1,h2⟩:=hs
   have hq:rF R L (cl x) (List.replicate 5 0) (cl z) (4:Nat) = _:=round (by kernel_rfl) (AT8 R L (cl x) (List.replicate 5 0) (cl z) (4:Nat))
   have hg4:=h2.get (by decide) 4
   show rF R L (cl x) (List.replicate 5 0) (cl z) (4:Nat) = _
   rw [hq,show decide (((4:Nat):Int) < 4) = false from by decide]
   simp only [cond_false]
   have ed:Int.fdiv ((cl z).getD 4 0) (2 ^ Min.min (Int.toNat 26) (IntKind.bits .i64)) = ((z.getD 4 0 / 67108864:Nat):Int):=by rw [yG];exact jQ _ 26
   rw [show Int.toNat 4 = 4 from rfl,ed,yG,m26 (by simp only [sF];omega) (by decide),tI])
  (fun x' i hi hs=>by
   obtain ⟨h1,h2⟩:=hs
   have hq:rF R L (cl x) (List.replicate 5 0) (cl x') (i:Nat) = _:=round (by kernel_rfl) (AT8 R L (cl x) (List.replicate 5 0) (cl x') (i:Nat))
   have hpos:0 < 134217728 + i * 1099511627776:=by omega
   have hg:=h2.get hpos i
   have hg1:=h2.get hpos (i + 1)
   have hmono:Bd (134217728 + (i + 1) * 1099511627776) x':=fun y hy=>Nat.lt_of_lt_of_le (h2 y hy) (by omega)
   refine ⟨?_,by simp [Bi8,h1],(hmono.set (by omega)).set (Nat.lt_of_lt_of_le (Nat.mod_lt _ (by decide)) (by omega))⟩
   show rF R L (cl x) (List.replicate 5 0) (cl x') (i:Nat) = _
   have ed:Int.fdiv ((cl x').getD i 0) (2 ^ Min.min (Int.toNat 26) (IntKind.bits .i64)) = ((x'.getD i 0 / 67108864:Nat):Int):=by rw [yG];exact jQ _ 26
   rw [hq,show decide ((i:Int) < 4) = true from decide_eq_true (by omega),zB (by omega)]
   simp only [nn,tn]
   rw [yB (n:=5) (show i + 1 < 5 by omega),yB (n:=5) (show i < 5 by omega),ed,yG,vO (by simp only [sF];omega),tI,yG,nJ (by omega),m26 (by simp only [sF];omega) (by decide),tI]
   simp only [cond_true]
   rfl)
  (x.set 0 (x.getD 0 0 + 5)) ⟨by simp [hx.l],Bd.set (fun y hy=>Nat.lt_of_lt_of_le (hx.b y hy) (by decide)) (by omega)⟩).1
 rw [hq,e0]
 refine this.trans ?_
 generalize ha:x.getD 0 0 = a at *
 generalize hb:x.getD 1 0 = b at *
 generalize hc:x.getD 2 0 = c at *
 generalize hd:x.getD 3 0 = d at *
 generalize he:x.getD 4 0 = e at *
 have hset:x.set 0 (a + 5) = [a + 5,b,c,d,e]:=by rw [hl];rfl
 have hv:vl x = val a b c d e:=by rw [hl];rfl
 rw [hset,Bb8]
 generalize h1:b + (a + 5) / 67108864 = b1
 generalize h2:c + b1 / 67108864 = c1
 generalize h3:d + c1 / 67108864 = d1
 generalize h4:e + d1 / 67108864 = e1
 show cond (eqI ((e1 / 67108864:Nat):Int) 0) _ (some (cl [(a + 5) % 67108864,b1 % 67108864,c1 % 67108864,d1 % 67108864,e1 % 67108864],())) = _
 unfold RED
 by_cases hz:e1 / 67108864 = 0
 ·rw [hz,if_neg (by rw [hv];unfold val PP;omega)];rfl
 ·have h1':e1 / 67108864 = 1:=by omega
  rw [h1',if_pos (by rw [hv];unfold val PP;omega)]
  have hm:val ((a + 5) % 67108864) (b1 % 67108864) (c1 % 67108864) (d1 % 67108864) (e1 % 67108864) = vl x - PP:=by
   rw [hv];unfold val PP;omega
  rw [← hm,BI5 (Nat.mod_lt _ (by decide)) (Nat.mod_lt _ (by decide)) (Nat.mod_lt _ (by decide)) (Nat.mod_lt _ (by decide)) (Nat.mod_lt _ (by decide))]
  rfl
theorem Bm2 (v q s:Nat) (hq:q < 5) (hs:s < 26):(L5 v).getD q 0 / 2 ^ s % 2 = v / 2 ^ (26 * q + s) % 2:=by
 have e:(L5 v).getD q 0 = v / 2 ^ (26 * q) % 67108864:=by
  match q,hq with
  | 0,_=>show v % 67108864 = v / 2 ^ 0 % 67108864;rw [Nat.pow_zero,Nat.div_one]
  | 1,_=>rfl
  | 2,_=>rfl
  | 3,_=>rfl
  | 4,_=>rfl
 rw [e,Nat.pow_add,← Nat.div_div_eq_div_mul]
 generalize v / 2 ^ (26 * q) = m
 rw [show (67108864:Nat) = 2 ^ s * (2 * 2 ^ (25 - s)) by rw [← Nat.pow_succ',← Nat.pow_add,show s + (25 - s).succ = 26 by omega],Nat.mod_mul_right_div_self,Nat.mod_mul_right_mod]
theorem Bh7 {m b x:Nat} (h:m < 2 ^ b) (hx:x < 2):m ||| x * 2 ^ b = m + x * 2 ^ b:=by
 rcases (show x = 0 ∨ x = 1 by omega) with rfl | rfl
 ·simp
 ·rw [Nat.one_mul];exact BB9 h
def stG (v:Nat) (k:List UInt8) (i:Nat) (s:List Nat × Nat):List Nat × Nat:=
 (s.1 ++ [(s.2 + (v / 2 ^ (8 * i) % 256 + bt k i)) % 256],(s.2 + (v / 2 ^ (8 * i) % 256 + bt k i)) / 256)
def Bm1 (i:Nat) (s:List Nat × Nat):Prop:=s.1.length = i ∧ s.2 ≤ 2
theorem Bm1.step {v i:Nat} {k:List UInt8} {s:List Nat × Nat} (h:Bm1 i s):Bm1 (i + 1) (stG v k i s):=by
 have hb:=rT k i
 have hm:=Nat.mod_lt (v / 2 ^ (8 * i)) (show 0 < 256 by decide)
 have h2:=h.2
 refine ⟨by simp [stG,h.1],?_⟩
 show (s.2 + (v / 2 ^ (8 * i) % 256 + bt k i)) / 256 ≤ 2
 omega
def Bm9 (v:Nat) (k:List UInt8):List UInt8:=(wJ (stG v k) 16 0 ([],0)).1.map fun n=>UInt8.ofNat n
theorem Bc9 (v:Nat) (k:List UInt8) (hk:k.length = 16) (i:Nat) (hi:i < 16) (o:List Int) (ho:o.length = 16) (c:Nat) (hc:c ≤ 2):
  xT R L k (cl (L5 v)) o (c:Int) (i:Int) (0:Int) (16:Nat) (i:Int) (0:Int) =
   xE R L k (cl (L5 v)) (o.set i (((c + (v / 2 ^ (8 * i) % 256 + bt k i)) % 256:Nat):Int)) (((c + (v / 2 ^ (8 * i) % 256 + bt k i)) / 256:Nat):Int) (16:Nat) ((i + 1:Nat):Int):=by
 have:=(yJ (fun (w:Nat) b=>xT R L k (cl (L5 v)) o (c:Int) (i:Int) (w:Int) (16:Nat) (i:Int) b) (fun b _=>v / 2 ^ (8 * i) % 2 ^ (b + 1)) (fun b w=>w = v / 2 ^ (8 * i) % 2 ^ b) 8
  (fun w=>xE R L k (cl (L5 v)) (o.set i (((c + (w + bt k i)) % 256:Nat):Int)) (((c + (w + bt k i)) / 256:Nat):Int) (16:Nat) ((i + 1:Nat):Int))
  (fun w hw=>by
   have hq:xT R L k (cl (L5 v)) o (c:Int) (i:Int) (w:Int) (16:Nat) (i:Int) (8:Nat) = _:=round (by kernel_rfl) (bA R L k _ o (c:Int) (i:Int) (w:Int) (16:Nat) (i:Int) (8:Nat))
   show xT R L k (cl (L5 v)) o (c:Int) (i:Int) (w:Int) (16:Nat) (i:Int) (8:Nat) = _
   have hb:=rT k i
   have hw8:w < 256:=by rw [hw];exact Nat.mod_lt _ (by decide)
   have hw0:IntKind.wrap .i64 ((UInt8.toNat (k.getD i 0):Nat):Int) = ((bt k i:Nat):Int):=sO (by show bt k i < _;omega)
   rw [hq,show decide (((8:Nat):Int) < 8) = false from by decide]
   simp only [cond_false,nn,tn]
   rw [yB (by omega),yB (by omega),hw0,vO (by simp only [sF];omega),vO (by simp only [sF];omega),sJ,zB (i:=i) (by omega)]
   simp only [cond_true]
   rw [show Int.fdiv ((c + (w + bt k i):Nat):Int) (2 ^ Min.min (Int.toNat 8) (IntKind.bits .i64)) = (((c + (w + bt k i)) / 256:Nat):Int) from jQ _ 8])
  (fun w b hb hw=>by
   refine ⟨?_,rfl⟩
   have hq:xT R L k (cl (L5 v)) o (c:Int) (i:Int) (w:Int) (16:Nat) (i:Int) (b:Nat) = _:=round (by kernel_rfl) (bA R L k _ o (c:Int) (i:Int) (w:Int) (16:Nat) (i:Int) (b:Nat))
   show xT R L k (cl (L5 v)) o (c:Int) (i:Int) (w:Int) (16:Nat) (i:Int) (b:Nat) = xT R L k (cl (L5 v)) o (c:Int) (i:Int) ((v / 2 ^ (8 * i) % 2 ^ (b + 1):Nat):Int) (16:Nat) (i:Int) ((b + 1:Nat):Int)
   have e8:IntKind.wrap .i64 (IntKind.wrap .i64 (8 * (i:Int)) + (b:Int)) = ((8 * i + b:Nat):Int):=by
    rw [show (8:Int) = ((8:Nat):Int) from rfl,gC (by simp only [sF];omega),vO (by simp only [sF];omega)]
   have et:Int.tdiv ((8 * i + b:Nat):Int) 26 = (((8 * i + b) / 26:Nat):Int):=rfl
   have em:Int.tmod ((8 * i + b:Nat):Int) 26 = (((8 * i + b) % 26:Nat):Int):=rfl
   have hs:(8 * i + b) % 26 < 26:=Nat.mod_lt _ (by decide)
   have hm2:Min.min ((8 * i + b) % 26) (IntKind.bits .u64) = (8 * i + b) % 26:=Nat.min_eq_left (by show _ ≤ 64;omega)
   have hm3:Min.min b (IntKind.bits .i64) = b:=Nat.min_eq_left (by show _ ≤ 64;omega)
   have hg:=(Ah2 v).get (by decide) ((8 * i + b) / 26)
   have hdl:(L5 v).getD ((8 * i + b) / 26) 0 / 2 ^ ((8 * i + b) % 26) < 67108864:=Nat.lt_of_le_of_lt (Nat.div_le_self _ _) hg
   have hand:xH .and .u64 (((L5 v).getD ((8 * i + b) / 26) 0 / 2 ^ ((8 * i + b) % 26):Nat):Int) 1 = ((v / 2 ^ (8 * i) / 2 ^ b % 2:Nat):Int):=by
    rw [show (1:Int) = ((1:Nat):Int) from rfl,AP8 (by simp only [sF];omega) (by decide),Nat.and_one_is_mod,Bm2 v _ _ (by omega) hs,Nat.div_add_mod,Nat.pow_add,← Nat.div_div_eq_div_mul]
   have hbit:v / 2 ^ (8 * i) / 2 ^ b % 2 < 2:=Nat.mod_lt _ (by decide)
   have hp:2 ^ b ≤ 128:=Nat.le_trans (Nat.pow_le_pow_right (by decide) (show b ≤ 7 by omega)) (by decide)
   have hp1:1 ≤ 2 ^ b:=Nat.one_le_two_pow
   have hmu:v / 2 ^ (8 * i) / 2 ^ b % 2 * 2 ^ b ≤ 1 * 128:=Nat.mul_le_mul (by omega) hp
   have hw':w < 2 ^ b:=by rw [hw];exact Nat.mod_lt _ (Nat.two_pow_pos _)
   rw [hq,show decide ((b:Int) < 8) = true from decide_eq_true (by omega),e8,et,em,sO (n:=(8 * i + b) / 26) (by omega)]
   simp only [nn,tn,cond_true]
   rw [yB (n:=5) (by omega),show decide ((((8 * i + b) % 26:Nat):Int) < 0) = false from decide_eq_false (by omega),show decide ((b:Int) < 0) = false from decide_eq_false (by omega),hm2,hm3,yG,jQ,hand,sO (n:=v / 2 ^ (8 * i) / 2 ^ b % 2) (by omega),A7V,sO (n:=v / 2 ^ (8 * i) / 2 ^ b % 2 * 2 ^ b) (by omega),Ag7 (by simp only [sF];omega) (by simp only [sF];omega),zB (i:=b) (by omega),Bh7 hw' hbit,hw,← A5C]
   rfl)
  0 (by rw [Nat.pow_zero,Nat.mod_one])).1
 exact this
end Go.Rf.S

end
section
namespace Go.Rf.S
set_option maxRecDepth 100000
theorem Aq5 (a b:List Nat):cl (a ++ b) = cl a ++ cl b:=by unfold cl;exact List.map_append
theorem Bk3 (pre:List Nat) (n:Nat) (z:Nat):(cl pre ++ List.replicate (n + 1) (0:Int)).set pre.length (z:Int) = cl (pre ++ [z]) ++ List.replicate n (0:Int):=by
 rw [Aq5,List.append_assoc,List.set_append_right _ _ (by rw [gM];exact Nat.le_refl _),gM,Nat.sub_self,List.replicate_succ]
 rfl
theorem A1u (pre:List Nat):List.map (fun n:Int=>UInt8.ofNat (Int.toNat n)) (cl pre) = pre.map fun n=>UInt8.ofNat n:=by
 unfold cl
 rw [List.map_map]
 apply List.map_congr_left
 intro n _
 show UInt8.ofNat (Int.toNat (n:Int)) = _
 rw [tn]
theorem BD0 (v:Nat) (k:List UInt8) (hk:k.length = 16):kW R (cl (L5 v)) k = some (Bm9 v k,()):=by
 have hq:kW R (cl (L5 v)) k = _:=call (Ap0 R L (cl (L5 v)) k)
 have:=(yJ (fun (s:List Nat × Nat) i=>xE R L k (cl (L5 v)) (cl s.1 ++ List.replicate (16 - s.1.length) (0:Int)) (s.2:Int) (16:Nat) i) (stG v k) Bm1 16
  (fun s=>some (s.1.map fun n=>UInt8.ofNat n,()))
  (fun s hs=>by
   have hq:xE R L k (cl (L5 v)) (cl s.1 ++ List.replicate (16 - s.1.length) (0:Int)) (s.2:Int) (16:Nat) (16:Nat) = _:=round (by kernel_rfl) (aB R L k _ _ (s.2:Int) (16:Nat) (16:Nat))
   show xE R L k (cl (L5 v)) (cl s.1 ++ List.replicate (16 - s.1.length) (0:Int)) (s.2:Int) (16:Nat) (16:Nat) = _
   rw [hq,AG7 (Nat.le_refl _),hs.1,Nat.sub_self,List.replicate_zero,List.append_nil,A1u]
   rfl)
  (fun s i hi hs=>by
   refine ⟨?_,hs.step⟩
   have hq:xE R L k (cl (L5 v)) (cl s.1 ++ List.replicate (16 - s.1.length) (0:Int)) (s.2:Int) (16:Nat) (i:Nat) = _:=round (by kernel_rfl) (aB R L k _ _ (s.2:Int) (16:Nat) (i:Nat))
   show xE R L k (cl (L5 v)) (cl s.1 ++ List.replicate (16 - s.1.length) (0:Int)) (s.2:Int) (16:Nat) (i:Nat) = xE R L k (cl (L5 v)) (cl (s.1 ++ [(s.2 + (v / 2 ^ (8 * i) % 256 + bt k i)) % 256]) ++ List.replicate (16 - (s.1 ++ [(s.2 + (v / 2 ^ (8 * i) % 256 + bt k i)) % 256]).length) (0:Int)) (((s.2 + (v / 2 ^ (8 * i) % 256 + bt k i)) / 256:Nat):Int) (16:Nat) ((i + 1:Nat):Int)
   rw [hq,AE5 hi]
   simp only [cond_true]
   have hl:=hs.1
   rw [Bc9 v k hk i hi _ (by rw [List.length_append,gM,List.length_replicate];omega) s.2 hs.2,hl,show 16 - i = (15 - i) + 1 by omega]
   have:=Bk3 s.1 (15 - i) ((s.2 + (v / 2 ^ (8 * i) % 256 + bt k i)) % 256)
   rw [hl] at this
   rw [this,List.length_append,hl,show 16 - (i + [(s.2 + (v / 2 ^ (8 * i) % 256 + bt k i)) % 256].length) = 15 - i by simp only [List.length_cons,List.length_nil];omega])
  ([],0) ⟨rfl,Nat.zero_le _⟩).1
 rw [hq]
 exact this
theorem Ba9 (v i:Nat) (hi:i < 16):(18 < 8 * i % 26 → ((L5 v).getD (8 * i / 26) 0 / 2 ^ (8 * i % 26) + (L5 v).getD (8 * i / 26 + 1) 0 * 2 ^ (26 - 8 * i % 26)) % 256 = v / 2 ^ (8 * i) % 256) ∧ (¬ 18 < 8 * i % 26 → (L5 v).getD (8 * i / 26) 0 / 2 ^ (8 * i % 26) % 256 = v / 2 ^ (8 * i) % 256):=by
 obtain rfl | rfl | rfl | rfl | rfl | rfl | rfl | rfl | rfl | rfl | rfl | rfl | rfl | rfl | rfl | rfl:i = 0 ∨ i = 1 ∨ i = 2 ∨ i = 3 ∨ i = 4 ∨ i = 5 ∨ i = 6 ∨ i = 7 ∨ i = 8 ∨ i = 9 ∨ i = 10 ∨ i = 11 ∨ i = 12 ∨ i = 13 ∨ i = 14 ∨ i = 15:=by omega
 all_goals
  refine ⟨fun h=>?_,fun h=>?_⟩
  all_goals first
   | (exfalso;revert h;decide)
   | (clear h;simp only [L5,Nat.reduceMul,Nat.reduceMod,Nat.reduceDiv,Nat.reduceAdd,Nat.reduceSub,Nat.reducePow,List.getD_cons_zero,List.getD_cons_succ];omega)
theorem Bh2 (a:Nat):a &&& 255 = a % 256:=Nat.and_two_pow_sub_one_eq_mod a 8
theorem Bu0 {a:Nat} (h:a < sF .i64):xH .and .i64 (a:Int) 255 = ((a % 256:Nat):Int):=by
 rw [show (255:Int) = ((255:Nat):Int) from rfl,AP8 h (by decide),Bh2]
theorem A7B (v:Nat) (v0:List UInt8) (h0:v0.length = 32):uN R L v0 (cl (L5 v)) ([]:List Int) (0:Int) (0:Int) = some (Bm9 v (v0.drop 16),()):=by
 have:=(yJ (fun (s:List Nat × Nat) i=>uN R L v0 (cl (L5 v)) (cl s.1) (s.2:Int) i) (stG v (v0.drop 16)) Bm1 16
  (fun s=>some (s.1.map fun n=>UInt8.ofNat n,()))
  (fun s hs=>by
   have hq:uN R L v0 (cl (L5 v)) (cl s.1) (s.2:Int) (16:Nat) = _:=round (by kernel_rfl) (Ae8 R L v0 _ _ (s.2:Int) (16:Nat))
   show uN R L v0 (cl (L5 v)) (cl s.1) (s.2:Int) (16:Nat) = _
   rw [hq,show decide (((16:Nat):Int) < 16) = false from by decide,A1u]
   rfl)
  (fun s i hi hs=>by
   refine ⟨?_,hs.step⟩
   have hq:uN R L v0 (cl (L5 v)) (cl s.1) (s.2:Int) (i:Nat) = _:=round (by kernel_rfl) (Ae8 R L v0 _ _ (s.2:Int) (i:Nat))
   show uN R L v0 (cl (L5 v)) (cl s.1) (s.2:Int) (i:Nat) = uN R L v0 (cl (L5 v)) (cl (s.1 ++ [(s.2 + (v / 2 ^ (8 * i) % 256 + bt (v0.drop 16) i)) % 256])) (((s.2 + (v / 2 ^ (8 * i) % 256 + bt (v0.drop 16) i)) / 256:Nat):Int) ((i + 1:Nat):Int)
   obtain ⟨hl,hc⟩:=hs
   have hbe:bt (v0.drop 16) i = bt v0 (16 + i):=by
    unfold bt
    rw [List.getD_eq_getElem?_getD,List.getD_eq_getElem?_getD,List.getElem?_drop]
   have hb:=rT v0 (16 + i)
   have e8:IntKind.wrap .i64 (8 * (i:Int)) = ((8 * i:Nat):Int):=by rw [show (8:Int) = ((8:Nat):Int) from rfl,gC (by simp only [sF];omega)]
   have et:Int.tdiv ((8 * i:Nat):Int) 26 = ((8 * i / 26:Nat):Int):=rfl
   have em:Int.tmod ((8 * i:Nat):Int) 26 = ((8 * i % 26:Nat):Int):=rfl
   have e16:IntKind.wrap .i64 (16 + (i:Int)) = ((16 + i:Nat):Int):=by rw [show (16:Int) = ((16:Nat):Int) from rfl,vO (by simp only [sF];omega)]
   have hw0:IntKind.wrap .i64 ((UInt8.toNat (v0.getD (16 + i) 0):Nat):Int) = ((bt v0 (16 + i):Nat):Int):=sO (by show bt v0 (16 + i) < _;omega)
   have hs26:8 * i % 26 < 26:=Nat.mod_lt _ (by decide)
   have hmn:Min.min (8 * i % 26) (IntKind.bits .i64) = 8 * i % 26:=Nat.min_eq_left (by show _ ≤ 64;omega)
   have hg:=(Ah2 v).get (by decide) (8 * i / 26)
   have hg1:=(Ah2 v).get (by decide) (8 * i / 26 + 1)
   have hdl:(L5 v).getD (8 * i / 26) 0 / 2 ^ (8 * i % 26) ≤ (L5 v).getD (8 * i / 26) 0:=Nat.div_le_self _ _
   have hm:=Nat.mod_lt (v / 2 ^ (8 * i)) (show 0 < 256 by decide)
   obtain ⟨b1,b2⟩:=Ba9 v i hi
   rw [hq,show decide ((i:Int) < 16) = true from decide_eq_true (by omega),e8,et,em,e16,sO (n:=8 * i / 26) (by omega),hbe,zB (i:=i) (by omega)]
   simp only [nn,tn,cond_true]
   rw [yB (n:=5) (show 8 * i / 26 < 5 by omega),show decide (((8 * i % 26:Nat):Int) < 0) = false from decide_eq_false (by omega),hmn,yB (n:=v0.length) (by omega),hw0,yG,jQ]
   simp only [cond_true,cond_false]
   have h8:∀ z:Nat,Int.fdiv ((z:Nat):Int) (2 ^ Min.min (Int.toNat 8) (IntKind.bits .i64)) = ((z / 256:Nat):Int):=fun z=>jQ _ 8
   by_cases h18:18 < 8 * i % 26
   ·rw [show decide ((18:Int) < ((8 * i % 26:Nat):Int)) = true from decide_eq_true (by omega),zB (i:=8 * i / 26) (by omega)]
    simp only [cond_true,nn,tn]
    have e26:IntKind.wrap .i64 (26 - ((8 * i % 26:Nat):Int)) = ((26 - 8 * i % 26:Nat):Int):=by rw [zH (by omega) (by omega)];omega
    have hmn2:Min.min (26 - 8 * i % 26) (IntKind.bits .i64) = 26 - 8 * i % 26:=Nat.min_eq_left (by show _ ≤ 64;omega)
    have hp2:2 ^ (26 - 8 * i % 26) ≤ 128:=Nat.le_trans (Nat.pow_le_pow_right (by decide) (show 26 - 8 * i % 26 ≤ 7 by omega)) (by decide)
    have hmul:(L5 v).getD (8 * i / 26 + 1) 0 * 2 ^ (26 - 8 * i % 26) ≤ 67108863 * 128:=Nat.mul_le_mul (by omega) hp2
    rw [yB (n:=5) (show 8 * i / 26 + 1 < 5 by omega),e26,show decide (((26 - 8 * i % 26:Nat):Int) < 0) = false from decide_eq_false (by omega),tn,hmn2,yG,A7V,sO (n:=(L5 v).getD (8 * i / 26 + 1) 0 * 2 ^ (26 - 8 * i % 26)) (by omega),vO (by simp only [sF];omega),Bu0 (by simp only [sF];omega),b1 h18,vO (by simp only [sF];omega),vO (by simp only [sF];omega),sJ,h8,vR (by rw [gM];simp only [List.length_cons,List.length_nil];omega)]
    simp only [cond_true,cond_false]
    rw [Aq5]
    rfl
   ·rw [show decide ((18:Int) < ((8 * i % 26:Nat):Int)) = false from decide_eq_false (by omega)]
    simp only [cond_false]
    rw [Bu0 (by simp only [sF];omega),b2 h18,vO (by simp only [sF];omega),vO (by simp only [sF];omega),sJ,h8,vR (by rw [gM];simp only [List.length_cons,List.length_nil];omega)]
    simp only [cond_true,cond_false]
    rw [Aq5]
    rfl)
  ([],0) ⟨rfl,Nat.zero_le _⟩).1
 exact this
end Go.Rf.S

end
section
namespace Go.Rf.S
set_option maxRecDepth 100000
def cs (m:Int) (i:Nat) (v:List Int):List Int:=v.set i (xH .and .u8 (v.getD i 0) m)
def BS6 (v:List Int):List Int:=cs 252 12 (cs 252 8 (cs 252 4 (cs 15 15 (cs 15 11 (cs 15 7 (cs 15 3 v))))))
def AC0 (key:List UInt8):List UInt8:=List.map (fun n:Int=>UInt8.ofNat (Int.toNat n)) (BS6 (List.map (fun b:UInt8=>(b.toNat:Int)) (key.take 16)))
theorem jD (m:Int) (i:Nat) (v:List Int):(cs m i v).length = v.length:=by simp [cs]
theorem A7j {key:List UInt8} (h:16 ≤ key.length):(AC0 key).length = 16:=by
 unfold AC0 BS6
 rw [List.length_map,jD,jD,jD,jD,jD,jD,jD,List.length_map,List.length_take]
 omega
theorem ic0 (v:List Int) (hl:v.length = 16) (i:Nat) (hi:i < 16):tZ R L v (i:Int) = tZ R L (cs 15 i v) ((i + 4:Nat):Int):=by
 have hq:tZ R L v (i:Int) = _:=round (by kernel_rfl) (AV8 R L v (i:Int))
 rw [hq,show decide ((i:Int) < 16) = true from decide_eq_true (by omega),show IntKind.wrap .i64 ((i:Int) + 4) = ((i + 4:Nat):Int) from by rw [zH (by omega) (by omega)];omega]
 simp only [nn,tn]
 rw [yB (by omega)]
 rfl
theorem ic1 (v:List Int) (hl:v.length = 16) (i:Nat) (hi:i < 16):tT R L v (i:Int) = tT R L (cs 252 i v) ((i + 4:Nat):Int):=by
 have hq:tT R L v (i:Int) = _:=round (by kernel_rfl) (AU8 R L v (i:Int))
 rw [hq,show decide ((i:Int) < 16) = true from decide_eq_true (by omega),show IntKind.wrap .i64 ((i:Int) + 4) = ((i + 4:Nat):Int) from by rw [zH (by omega) (by omega)];omega]
 simp only [nn,tn]
 rw [yB (by omega)]
 rfl
theorem sc0 (v:List Int) (hl:v.length = 16) (i:Nat) (hi:i < 16):uK R L v (i:Int) = uK R L (cs 15 i v) ((i + 4:Nat):Int):=by
 have hq:uK R L v (i:Int) = _:=round (by kernel_rfl) (AO1 R L v (i:Int))
 rw [hq,show decide ((i:Int) < 16) = true from decide_eq_true (by omega),show IntKind.wrap .i64 ((i:Int) + 4) = ((i + 4:Nat):Int) from by rw [zH (by omega) (by omega)];omega]
 simp only [nn,tn]
 rw [yB (by omega)]
 rfl
theorem sc1 (v:List Int) (hl:v.length = 16) (i:Nat) (hi:i < 16):uT R L v (i:Int) = uT R L (cs 252 i v) ((i + 4:Nat):Int):=by
 have hq:uT R L v (i:Int) = _:=round (by kernel_rfl) (AP6 R L v (i:Int))
 rw [hq,show decide ((i:Int) < 16) = true from decide_eq_true (by omega),show IntKind.wrap .i64 ((i:Int) + 4) = ((i + 4:Nat):Int) from by rw [zH (by omega) (by omega)];omega]
 simp only [nn,tn]
 rw [yB (by omega)]
 rfl
theorem A3t (key:List UInt8) (h:16 ≤ key.length):aS R key = some (AC0 key,()):=by
 have hq:aS R key = _:=call (A3w R L key)
 rw [hq,show Int.toNat 16 = 16 from rfl,show Nat.ble 16 key.length = true from by rw [Nat.ble_eq];exact h,List.drop_zero]
 simp only [cond_true]
 have l0:(List.map (fun b:UInt8=>(b.toNat:Int)) (key.take 16)).length = 16:=by rw [List.length_map,List.length_take];omega
 unfold AC0
 generalize List.map (fun b:UInt8=>(b.toNat:Int)) (key.take 16) = v at l0 ⊢
 have e1:∀ v,tZ R L v ((19:Nat):Int) = tT R L v ((4:Nat):Int):=fun v=>by
  have hq:tZ R L v ((19:Nat):Int) = _:=round (by kernel_rfl) (AV8 R L v ((19:Nat):Int))
  rw [hq];rfl
 have e2:∀ v,tT R L v ((16:Nat):Int) = some (List.map (fun n:Int=>UInt8.ofNat (Int.toNat n)) v,()):=fun v=>by
  have hq:tT R L v ((16:Nat):Int) = _:=round (by kernel_rfl) (AU8 R L v ((16:Nat):Int))
  rw [hq];rfl
 show tZ R L v ((3:Nat):Int) = _
 rw [ic0 v l0 3 (by decide),ic0 _ (by simp only [jD];exact l0) 7 (by decide),ic0 _ (by simp only [jD];exact l0) 11 (by decide),ic0 _ (by simp only [jD];exact l0) 15 (by decide),e1,
  ic1 _ (by simp only [jD];exact l0) 4 (by decide),ic1 _ (by simp only [jD];exact l0) 8 (by decide),ic1 _ (by simp only [jD];exact l0) 12 (by decide),e2]
 rfl
theorem A8U (key:List UInt8) (h:16 ≤ key.length):cO R key = some (AC0 key,()):=by
 have hq:cO R key = _:=call (A2r R L key)
 rw [hq,show Int.toNat 16 = 16 from rfl,show Nat.ble 16 key.length = true from by rw [Nat.ble_eq];exact h,List.drop_zero]
 simp only [cond_true]
 have l0:(List.map (fun b:UInt8=>(b.toNat:Int)) (key.take 16)).length = 16:=by rw [List.length_map,List.length_take];omega
 unfold AC0
 generalize List.map (fun b:UInt8=>(b.toNat:Int)) (key.take 16) = v at l0 ⊢
 have e1:∀ v,uK R L v ((19:Nat):Int) = uT R L v ((4:Nat):Int):=fun v=>by
  have hq:uK R L v ((19:Nat):Int) = _:=round (by kernel_rfl) (AO1 R L v ((19:Nat):Int))
  rw [hq];rfl
 have e2:∀ v,uT R L v ((16:Nat):Int) = some (List.map (fun n:Int=>UInt8.ofNat (Int.toNat n)) v,()):=fun v=>by
  have hq:uT R L v ((16:Nat):Int) = _:=round (by kernel_rfl) (AP6 R L v ((16:Nat):Int))
  rw [hq];rfl
 show uK R L v ((3:Nat):Int) = _
 rw [sc0 v l0 3 (by decide),sc0 _ (by simp only [jD];exact l0) 7 (by decide),sc0 _ (by simp only [jD];exact l0) 11 (by decide),sc0 _ (by simp only [jD];exact l0) 15 (by decide),e1,
  sc1 _ (by simp only [jD];exact l0) 4 (by decide),sc1 _ (by simp only [jD];exact l0) 8 (by decide),sc1 _ (by simp only [jD];exact l0) 12 (by decide),e2]
 rfl
def iD (t:List UInt8) (i:Nat):List UInt8:=(t.take (min (i + 16) t.length)).drop i ++ [1]
theorem A9s {t:List UInt8} {i:Nat} (h:i < t.length):2 ≤ (iD t i).length ∧ (iD t i).length ≤ 17:=by
 unfold iD
 rw [List.length_append,List.length_drop,List.length_take]
 simp only [List.length_cons,List.length_nil]
 omega
theorem A95 (t:List UInt8) (h:t.length ≤ 16):leV (t ++ [1]) < 680564733841876926926749214863536422912:=by
 rw [AL8]
 have h1:=A51 t
 have h2:256 ^ t.length ≤ 256 ^ 16:=Nat.pow_le_pow_right (by decide) h
 have h3:(256:Nat) ^ 16 = 340282366920938463463374607431768211456:=by decide
 have h4:leV [1] = 1:=by decide
 rw [h4]
 omega
theorem A5B {t:List UInt8} {i:Nat} (h:i < t.length):leV (iD t i) < 680564733841876926926749214863536422912:=A95 _ (by
 rw [List.length_drop,List.length_take];omega)
theorem BS4 (a b:Nat):Ax5 (a:Int) (b:Int) = ((min a b:Nat):Int):=by
 unfold Ax5
 by_cases h:(b:Int) < (a:Int)
 ·rw [decide_eq_true h];simp only [cond_true];rw [Nat.min_eq_right (by omega)]
 ·rw [decide_eq_false h];simp only [cond_false];rw [Nat.min_eq_left (by omega)]
theorem Ay2 {a b:Nat} (h:a ≤ b):Nat.ble a b = true:=by rw [Nat.ble_eq];exact h
theorem A6P (v0 v1:List UInt8) (v5 v6:List Int) (v7:Int):∀ (n:Nat) (b:List UInt8),b.length + n = 17 → oA R L v0 v1 v5 v6 v7 b = (kI R (b ++ List.replicate n 0)).bind fun r0=>tV R L v0 v1 v5 v6 v7 r0.1 0
 | 0,b,h=>by
  have hq:oA R L v0 v1 v5 v6 v7 b = _:=round (by kernel_rfl) (Ac3 R L v0 v1 v5 v6 v7 b)
  rw [hq,show decide ((b.length:Int) < 17) = false from decide_eq_false (by omega),List.replicate_zero,List.append_nil]
  rfl
 | n + 1,b,h=>by
  have hq:oA R L v0 v1 v5 v6 v7 b = _:=round (by kernel_rfl) (Ac3 R L v0 v1 v5 v6 v7 b)
  rw [hq,show decide ((b.length:Int) < 17) = true from decide_eq_true (by omega),vR (by simp only [List.length_cons,List.length_nil];omega)]
  simp only [cond_true]
  rw [A6P v0 v1 v5 v6 v7 n (b ++ [0]) (by rw [List.length_append];simp only [List.length_cons,List.length_nil];omega),List.append_assoc,List.replicate_succ]
  rfl
theorem BP4 (key t:List UInt8) (hk:key.length = 32) (hl:t.length ≤ 4294967296) (r:Nat) (hr:r < 1361129467683753853853498429727072845824):
  ∀ (n i:Nat) (h g:List Nat),t.length - i ≤ n → Can h → Can g → vl h % PP = vl g % PP → i ≤ t.length + 16 →
   ∃ out,jW R L key t (cl h) (cl (L5 r)) (i:Int) = some (out,()) ∧ rA R L key t (cl (L5 r)) (cl g) (i:Int) = some (out,()) ∧ out.length = 16:=by
 have hrv:vl (L5 r) = r:=BT1 hr
 have hend:∀ (i:Nat) (h g:List Nat),t.length ≤ i → Can h → Can g → vl h % PP = vl g % PP → ∃ out,jW R L key t (cl h) (cl (L5 r)) (i:Int) = some (out,()) ∧ rA R L key t (cl (L5 r)) (cl g) (i:Int) = some (out,()) ∧ out.length = 16:=by
  intro i h g hi hh hg he
  have hq:jW R L key t (cl h) (cl (L5 r)) (i:Int) = _:=round (by kernel_rfl) (A3R R L key t (cl h) (cl (L5 r)) (i:Int))
  have hq2:rA R L key t (cl (L5 r)) (cl g) (i:Int) = _:=round (by kernel_rfl) (Ad2 R L key t (cl (L5 r)) (cl g) (i:Int))
  refine ⟨Bm9 (if PP ≤ vl h then vl h - PP else vl h) (key.drop 16),?_,?_,?_⟩
  ·rw [hq,show decide ((i:Int) < (t.length:Nat)) = false from decide_eq_false (by omega),A4l h hh,BR0 hh]
   simp only [cond_false,Option.bind_some]
   rw [show Int.toNat 16 = 16 from rfl,Ay2 (Nat.le_refl _),Ay2 (show 16 ≤ key.length by omega),List.take_length,BD0 _ _ (by rw [List.length_drop];omega)]
   rfl
  ·rw [hq2,show decide ((i:Int) < (t.length:Nat)) = false from decide_eq_false (by omega),A1h g hg.l (fun z hz=>Nat.lt_of_lt_of_le (hg.b z hz) (by decide)),BT0 hg]
   simp only [cond_false,Option.bind_some]
   rw [BJ2 g hg,BR0 hg,Bf6 (Bl6 hh) (Bl6 hg) he]
   simp only [Option.bind_some]
   exact A7B _ key hk
  ·have inv:∀ (m j:Nat) (s:List Nat × Nat) (v:Nat) (k:List UInt8),s.1.length = j → (wJ (stG v k) m j s).1.length = j + m:=by
    intro m
    induction m with
    | zero=>intro j s v k hs;exact hs
    | succ m ih=>
     intro j s v k hs
     show (wJ (stG v k) m (j + 1) (stG v k j s)).1.length = _
     rw [ih (j + 1) _ v k (by simp [stG,hs])];omega
   unfold Bm9
   rw [List.length_map,inv 16 0 _ _ _ rfl]
 intro n
 induction n with
 | zero=>intro i h g hn hh hg he hi;exact hend i h g (by omega) hh hg he
 | succ n ih=>
  intro i h g hn hh hg he hi
  rcases Nat.lt_or_ge i t.length with hlt | hge
  ·have hq:jW R L key t (cl h) (cl (L5 r)) (i:Int) = _:=round (by kernel_rfl) (A3R R L key t (cl h) (cl (L5 r)) (i:Int))
   have hq2:rA R L key t (cl (L5 r)) (cl g) (i:Int) = _:=round (by kernel_rfl) (Ad2 R L key t (cl (L5 r)) (cl g) (i:Int))
   have e16:IntKind.wrap .i64 ((i:Int) + 16) = ((i + 16:Nat):Int):=by rw [show (16:Int) = ((16:Nat):Int) from rfl,vO (by simp only [sF];omega)]
   have hm:=A5B hlt
   obtain ⟨c1,c2⟩:=A9s hlt
   have hm130:leV (iD t i) < 1361129467683753853853498429727072845824:=by omega
   have hlv:vl (L5 (leV (iD t i))) = leV (iD t i):=BT1 hm130
   have hcut:((t.take (min (i + 16) t.length)).drop i).length ≤ 16:=by rw [List.length_drop,List.length_take];omega
   have hA:=BA9 hh.b (Ah2 (leV (iD t i)))
   have hB:=BA9 hg.b (Ah2 (leV (iD t i)))
   have lift:∀ {z:List Nat},Bd 134217728 z → Bd 288230376151711744 z:=fun hz y hy=>Nat.lt_of_lt_of_le (hz y hy) (by decide)
   obtain ⟨k1,k2,_⟩:=A3O (x:=ADD h (L5 (leV (iD t i)))) rfl (lift hA)
   have kB:Bd 134217728 (CAR (ADD h (L5 (leV (iD t i))))):=fun y hy=>Nat.lt_of_lt_of_le (k1.b y hy) (by decide)
   obtain ⟨m1,m2,_⟩:=A3O (x:=TIM (CAR (ADD h (L5 (leV (iD t i))))) (L5 r)) rfl (A6O kB (Ah2 r))
   obtain ⟨s1,s2,_⟩:=A3O (x:=TIM (ADD g (L5 (leV (iD t i)))) (L5 r)) rfl (A6O hB (Ah2 r))
   have hmod:vl (CAR (TIM (CAR (ADD h (L5 (leV (iD t i))))) (L5 r))) % PP = vl (CAR (TIM (ADD g (L5 (leV (iD t i)))) (L5 r))) % PP:=by
    rw [m2,s2,BU2,BU2,hrv,Nat.mul_mod,k2,BS7,BS7,hlv,Nat.add_mod (vl h),he,← Nat.add_mod,← Nat.mul_mod]
   obtain ⟨out,o1,o2,o3⟩:=ih (i + 16) _ _ (by omega) m1 s1 hmod (by omega)
   refine ⟨out,?_,?_,o3⟩
   ·rw [hq,show decide ((i:Int) < (t.length:Nat)) = true from decide_eq_true (by omega),e16,BS4]
    simp only [nn,tn,cond_true]
    rw [Ay2 (show min (i + 16) t.length ≤ t.length from Nat.min_le_right _ _),Ay2 (show i ≤ min (i + 16) t.length by omega),vR (by simp only [List.length_cons,List.length_nil];omega)]
    simp only [cond_true]
    show (iB R (iD t i)).bind _ = _
    rw [Al8 _ c2 hm130]
    simp only [Option.bind_some]
    rw [BO4 _ _ hh.l hh.b (Ah2 _)]
    simp only [Option.bind_some]
    rw [BD6 _ _ k1.l kB (Ah2 r)]
    exact o1
   ·rw [hq2,show decide ((i:Int) < (t.length:Nat)) = true from decide_eq_true (by omega),e16,BS4,Nat.min_comm]
    simp only [nn,tn,cond_true]
    rw [Ay2 (show min (i + 16) t.length ≤ t.length from Nat.min_le_right _ _),Ay2 (show i ≤ min (i + 16) t.length by omega),vR (by simp only [List.length_cons,List.length_nil];omega)]
    simp only [cond_true]
    show oA R L key t (cl (L5 r)) (cl g) (i:Int) (iD t i) = _
    have hz:leV (iD t i ++ List.replicate (17 - (iD t i).length) 0) = leV (iD t i):=by rw [AL8,A3J];simp
    have h17:(iD t i ++ List.replicate (17 - (iD t i).length) 0).length = 17:=by rw [List.length_append,List.length_replicate];omega
    have hb16:bt (iD t i ++ List.replicate (17 - (iD t i).length) 0) 16 < 4:=by
     rw [← A1Y,hz]
     have:(256:Nat) ^ 16 = 340282366920938463463374607431768211456:=by decide
     rw [this]
     omega
    rw [A6P key t (cl (L5 r)) (cl g) (i:Int) (17 - (iD t i).length) (iD t i) (by omega),A1x _ h17 hb16,hz]
    simp only [Option.bind_some]
    rw [BG9 g (L5 (leV (iD t i))) hg.l hg.b (Ah2 _),A8s _ _ rfl hB (Ah2 r)]
    simp only [Option.bind_some]
    rw [e16]
    exact o2
  ·exact hend i h g hge hh hg he
theorem Bs4:Can (List.replicate 5 0):=⟨rfl,Bd.rep (by decide)⟩
theorem BN3 (key t:List UInt8) (hk:key.length = 32) (hl:t.length ≤ 4294967296):∃ out,Aq1 R key t = some (out,()) ∧ eH R key t = some (out,()) ∧ out.length = 16:=by
 have hq:Aq1 R key t = _:=call (BX5 R L key t)
 have hq2:eH R key t = _:=call (A7d R L key t)
 have hcl:=A7j (key:=key) (by omega)
 have hr:leV (AC0 key) < 1361129467683753853853498429727072845824:=by
  have:=A51 (AC0 key)
  rw [hcl] at this
  exact Nat.lt_of_lt_of_le this (by decide)
 obtain ⟨out,h1,h2,h3⟩:=BP4 key t hk hl (leV (AC0 key)) hr t.length 0 (List.replicate 5 0) (List.replicate 5 0) (by omega) Bs4 Bs4 rfl (by omega)
 refine ⟨out,?_,?_,h3⟩
 ·rw [hq,A3t key (by omega)]
  simp only [Option.bind_some]
  rw [Al8 _ (by omega) hr]
  exact h1
 ·rw [hq2,A8U key (by omega)]
  simp only [Option.bind_some]
  have hz:leV (AC0 key ++ [0]) = leV (AC0 key):=by rw [AL8];simp [leV]
  have hb:bt (AC0 key ++ [0]) 16 < 4:=by
   unfold bt
   rw [List.getD_eq_getElem?_getD,List.getElem?_append_right (by omega),hcl]
   decide
  rw [vR (by rw [hcl];decide),A1x _ (by rw [List.length_append,hcl];rfl) hb,hz]
  exact h2
end Go.Rf.S

end
section
namespace Go.Rf.S
set_option maxRecDepth 100000
theorem Ac9 (l:List Nat):(ub l).length = l.length:=List.length_map _
theorem AW4 (v:Nat):(ub (lit v 8)).length = 8:=by rw [Ac9,cW v 8 (by decide)]
def BR5 (t:List UInt8):List UInt8:=t ++ ub (List.replicate ((16 - t.length % 16) % 16) 0)
theorem A1P (t:List UInt8):(BR5 t).length = t.length + (16 - t.length % 16) % 16:=by
 unfold BR5;rw [List.length_append,Ac9,List.length_replicate]
theorem A5w (t:List UInt8) (ht:t.length ≤ 549755813888):bZ R t = some (BR5 t,()):=by
 have hq:bZ R t = _:=call (A7c R L t)
 have e1:Int.tmod (t.length:Int) 16 = ((t.length % 16:Nat):Int):=rfl
 have e2:IntKind.wrap .i64 (16 - ((t.length % 16:Nat):Int)) = ((16 - t.length % 16:Nat):Int):=by rw [zH (by omega) (by omega)];omega
 have e3:Int.tmod ((16 - t.length % 16:Nat):Int) 16 = (((16 - t.length % 16) % 16:Nat):Int):=rfl
 rw [hq,e1,e2,e3,A2e _ (by omega)]
 simp (disch:=omega) only [st,Ac9,List.length_replicate]
 rfl
theorem Bi3:∀ (n:Nat) (t:List UInt8),(t.length + n) % 16 = 0 → n < 16 → t.length ≤ 549755813888 → jI R L t = some (t ++ ub (List.replicate n 0),())
 | n,t,h,hn,ht=>by
  have hq:jI R L t = _:=round (by kernel_rfl) (A1n R L t)
  have e1:Int.tmod (t.length:Int) 16 = ((t.length % 16:Nat):Int):=rfl
  rw [hq,e1]
  cases n with
  | zero=>
   simp (disch:=omega) only [st,Bool.not_true]
   rw [show ub (List.replicate 0 0) = [] from rfl,List.append_nil]
  | succ n=>
   simp (disch:=omega) only [st,Bool.not_false]
   rw [Bi3 n (t ++ [0]) (by rw [List.length_append];simp only [List.length_cons,List.length_nil];omega) (by omega) (by rw [List.length_append];simp only [List.length_cons,List.length_nil];omega),List.append_assoc]
   rfl
theorem A6I (t:List UInt8) (ht:t.length ≤ 549755813888):bG R t = some (BR5 t,()):=
 Eq.trans (call (A63 R L t):bG R t = _) (Bi3 _ t (by omega) (by omega) ht)
theorem A4i (v:Nat):kJ R (v:Int) = some (ub (lit v 8),()):=by
 have hq:kJ R (v:Int) = _:=call (A2Y R L (v:Int))
 refine hq.trans (yJ (fun (o:List Nat) i=>sD R L (v:Int) (cl o) i) (stL v) (fun i o=>o.length = i) 8 (fun o=>some (ub o,()))
  (fun o _=>?_) (fun o i hi ho=>⟨?_,by unfold stL;rw [List.length_append,ho];rfl⟩) [] rfl).1
 ·have hq:sD R L (v:Int) (cl o) (8:Nat) = _:=round (by kernel_rfl) (AN5 R L (v:Int) (cl o) (8:Nat))
  show sD R L (v:Int) (cl o) (8:Nat) = _
  rw [hq,Ap5];rfl
 ·have hq:sD R L (v:Int) (cl o) (i:Nat) = _:=round (by kernel_rfl) (AN5 R L (v:Int) (cl o) (i:Nat))
  show sD R L (v:Int) (cl o) (i:Nat) = _
  have e8:IntKind.wrap .i64 ((8:Int) * (i:Int)) = ((8 * i:Nat):Int):=by rw [zH (by omega) (by omega)];omega
  rw [hq,e8,tn,show Min.min (8 * i) (IntKind.bits .i64) = 8 * i from Nat.min_eq_left (by simp only [IntKind.bits];omega),jQ,sJ,zB (by omega)]
  simp (disch:=omega) only [st,dT,dF,gM]
  rw [show [((v / 2 ^ (8 * i) % 256:Nat):Int)] = cl [v / 2 ^ (8 * i) % 256] from rfl,AW8]
  rfl
noncomputable def Bd3 (key t:List UInt8):List UInt8:=((eH R key t).getD ([],())).1
theorem Bq0 {key t:List UInt8} (hk:key.length = 32) (hl:t.length ≤ 4294967296):Aq1 R key t = some (Bd3 key t,()) ∧ eH R key t = some (Bd3 key t,()) ∧ (Bd3 key t).length = 16:=by
 obtain ⟨out,h1,h2,h3⟩:=BN3 key t hk hl
 have e:Bd3 key t = out:=by unfold Bd3;rw [h2];rfl
 rw [e];exact ⟨h1,h2,h3⟩
noncomputable def btF (key nonce ad t:List UInt8):List UInt8:=Bd3 ((chB key nonce 0).take 32) (((BR5 ad ++ BR5 t) ++ ub (lit ad.length 8)) ++ ub (lit t.length 8))
theorem BN6 {key nonce ad t:List UInt8} (hk:key.length = 32) (hn:nonce.length = 12) (ha:ad.length ≤ 1073741824) (hl:t.length ≤ 1073741824):
  AK6 R key nonce ad t = some (btF key nonce ad t,()) ∧ AL0 R key nonce ad t = some (btF key nonce ad t,()) ∧ (btF key nonce ad t).length = 16:=by
 have hB:(chB key nonce 0).length = 64:=AR6 hk hn (by decide)
 obtain ⟨h1,h2,h3⟩:=Bq0 (key:=(chB key nonce 0).take 32) (t:=((BR5 ad ++ BR5 t) ++ ub (lit ad.length 8)) ++ ub (lit t.length 8)) (by rw [List.length_take];omega)
  (by simp only [List.length_append,A1P,AW4];omega)
 have e1:bE R key nonce 0 = some (chB key nonce 0,()):=(A0N key nonce hk hn 0 (by decide)).1
 have e2:pU R key nonce 0 = some (chB key nonce 0,()):=Az2 key nonce hk hn 0 (by decide)
 have l8:∀ v:Nat,vE R (v:Int) 8 = some (ub (lit v 8),()):=fun v=>AJ6 v 8 (by decide)
 refine ⟨?_,?_,h3⟩
 ·rw [show AK6 R key nonce ad t = _ from call (A7t R L key nonce ad t),e1,A5w ad (by omega),A5w t (by omega),l8,l8]
  simp (disch:=omega) only [st,hB,A1P,AW4,show (32:Int).toNat = 32 from rfl,List.drop_zero,h1]
  rfl
 ·rw [show AL0 R key nonce ad t = _ from call (A6j R L key nonce ad t),e2,A6I ad (by omega),A6I t (by omega),A4i,A4i]
  simp (disch:=omega) only [st,hB,A1P,AW4,show (32:Int).toNat = 32 from rfl,List.drop_zero,h2]
  rfl
theorem A2W (key nonce:List UInt8) (hk:key.length = 32) (hn:nonce.length = 12) (count:Nat) (t:List UInt8) (ht:t.length ≤ 1073741824) (hc:count ≤ 1024):∀ k,64 * k ≤ t.length + 63 →
  (A79 A78 (chB key nonce) count t k).length = min (64 * k) t.length ∧ ∀ i,i < min (64 * k) t.length → bt (A79 A78 (chB key nonce) count t k) i = bt t i ^^^ bt (chB key nonce (count + i / 64)) (i % 64)
 | 0,_=>⟨by simp [A79],fun i hi=>by omega⟩
 | k + 1,hk'=>by
  obtain ⟨h1,h2⟩:=A2W key nonce hk hn count t ht hc k (by omega)
  have hB:(chB key nonce (count + k)).length = 64:=AR6 hk hn (by omega)
  have hl:((t.drop (64 * k)).take 64).length = min 64 (t.length - 64 * k):=by rw [List.length_take,List.length_drop]
  have hx:(A78 ((t.drop (64 * k)).take 64) (chB key nonce (count + k))).length = min 64 (t.length - 64 * k):=by rw [AT9 _ _ (by omega),hl]
  refine ⟨by rw [A79,List.length_append,h1,hx];omega,fun i hi=>?_⟩
  rw [A79]
  by_cases hi64:i < min (64 * k) t.length
  ·rw [Aa1 (by omega),h2 i hi64]
  ·have hb:bt ((t.drop (64 * k)).take 64) (i - min (64 * k) t.length) = bt t i:=by
    unfold bt
    rw [bS _ (by omega),List.getD_eq_getElem?_getD,List.getD_eq_getElem?_getD,List.getElem?_drop,show 64 * k + (i - min (64 * k) t.length) = i by omega]
   rw [Ab8 (by omega),h1,A0v _ _ _ (by omega) (by omega),hb,show i / 64 = k by omega,show i % 64 = i - min (64 * k) t.length by omega]
theorem BL2 (key nonce:List UInt8) (hk:key.length = 32) (hn:nonce.length = 12) (count:Nat) (t:List UInt8) (ht:t.length ≤ 1073741824) (hc:count ≤ 1024):
  A79 A78 (chB key nonce) count t ((t.length + 63) / 64) = chX key nonce (t.length / 64 + 1) count t:=by
 obtain ⟨a1,a2⟩:=A2W key nonce hk hn count t ht hc ((t.length + 63) / 64) (by omega)
 obtain ⟨b1,b2⟩:=Aj8 key nonce hk hn (t.length / 64 + 1) count t (by omega) (by omega)
 refine A9n (by rw [a1,b1];omega) fun i hi=>?_
 rw [a1] at hi
 rw [a2 i hi,b2 i (by omega)]
theorem BO9 (key nonce:List UInt8) (hk:key.length = 32) (hn:nonce.length = 12) (count:Nat) (t:List UInt8) (ht:t.length ≤ 1048576) (hc:count ≤ 1024):
  Aa4 R key nonce (count:Int) t = some (chX key nonce (t.length / 64 + 1) count t,()):=by
 refine (A8O (f:=273) rfl _).trans (A5s (E:=EE) (f:=273) (x:=(chX key nonce (t.length / 64 + 1) count t,())) ?_ ?_)
 ·rfl
 ·rw [← BL2 key nonce hk hn count t (by omega) hc]
  exact A8V (E:=EE) rfl A78 (chB key nonce) key nonce t count ht (by omega)
   (fun c hc=>A6s _ _ _ (A0N key nonce hk hn c (by omega)).1)
   (fun a c hc ha=>A6s _ _ _ (Bo0 a (chB key nonce c) (by rw [AR6 hk hn (by omega)];exact ha) (by rw [AR6 hk hn (by omega)];decide)))
   (fun a c hc ha=>by rw [AT9 _ _ (by rw [AR6 hk hn (by omega)];exact ha)];exact ha)
end Go.Rf.S

end
section
namespace Go.Rf.S
set_option maxRecDepth 100000
def BT5 (kind place epoch:Nat):List UInt8:=((ub (lit kind 1) ++ ub (lit place 2)) ++ ub (lit 0 1)) ++ ub (lit epoch 8)
theorem BK2 (a b c:Nat):(BT5 a b c).length = 12:=by
 unfold BT5
 simp only [List.length_append,Ac9,cW _ _ (show 8 ≤ 8 by decide),cW _ _ (show 1 ≤ 8 by decide),cW _ _ (show 2 ≤ 8 by decide)]
theorem A9b (a b c:Nat):AA7 R (a:Int) (b:Int) (c:Int) = some (BT5 a b c,()) ∧ cF R (a:Int) (b:Int) (c:Int) = some (BT5 a b c,()):=by
 have e1:∀ v:Nat,vE R (v:Int) 1 = some (ub (lit v 1),()):=fun v=>AJ6 v 1 (by decide)
 have e2:∀ v:Nat,vE R (v:Int) 2 = some (ub (lit v 2),()):=fun v=>AJ6 v 2 (by decide)
 have e8:∀ v:Nat,vE R (v:Int) 8 = some (ub (lit v 8),()):=fun v=>AJ6 v 8 (by decide)
 have e0:vE R 0 1 = some (ub (lit 0 1),()):=e1 0
 have l1:∀ v,(ub (lit v 1)).length = 1:=fun v=>by rw [Ac9,cW _ _ (by decide)]
 have l2:∀ v,(ub (lit v 2)).length = 2:=fun v=>by rw [Ac9,cW _ _ (by decide)]
 constructor
 ·rw [show AA7 R (a:Int) (b:Int) (c:Int) = _ from call (A5G R L (a:Int) (b:Int) (c:Int)),e1,e2,e0,e8]
  simp (disch:=omega) only [st,l1,l2,AW4]
  rfl
 ·have hm:Min.min (8:Int).toNat (IntKind.bits .i64) = 8:=rfl
  rw [show cF R (a:Int) (b:Int) (c:Int) = _ from call (A3F R L (a:Int) (b:Int) (c:Int)),A4i,hm,jQ,sJ,sJ,sJ]
  rw [show [((a % 256:Nat):Int),((b % 256:Nat):Int),((b / 2 ^ 8 % 256:Nat):Int),0] = cl [a % 256,b % 256,b / 2 ^ 8 % 256,0] from rfl,Ap5]
  simp (disch:=omega) only [st,AW4,Ac9,List.length_cons,List.length_nil]
  have:ub [a % 256,b % 256,b / 2 ^ 8 % 256,0] = (ub (lit a 1) ++ ub (lit b 2)) ++ ub (lit 0 1):=by
   have f1:lit a 1 = [a / 2 ^ 0 % 256]:=rfl
   have f2:lit b 2 = [b / 2 ^ 0 % 256,b / 2 ^ 8 % 256]:=rfl
   have f3:lit 0 1 = [0]:=rfl
   rw [f1,f2,f3,Nat.pow_zero,Nat.div_one,Nat.div_one];rfl
  rw [this];rfl
def blk:List UInt8:=[98,108,111,99,107]
noncomputable def Br1 (key nonce ad t:List UInt8):List UInt8:=chX key nonce (t.length / 64 + 1) 1 t ++ btF key nonce ad (chX key nonce (t.length / 64 + 1) 1 t)
theorem Bb7 {key nonce:List UInt8} (hk:key.length = 32) (hn:nonce.length = 12) (t:List UInt8) (ht:t.length ≤ 1048576):(chX key nonce (t.length / 64 + 1) 1 t).length = t.length:=
 (Aj8 key nonce hk hn (t.length / 64 + 1) 1 t (by omega) (by omega)).1
noncomputable def BX8 (key:List UInt8) (a b c:Nat) (t:List UInt8):List UInt8:=Br1 key (BT5 a b c) blk t
def BJ0 (a b:List UInt8):List UInt8:=dig (([1] ++ a) ++ b)
def A7C (at_:Nat) (t:List UInt8):List UInt8:=dig (ub [0,at_ % 256] ++ t)
theorem BQ8 {a b:List UInt8} (ha:a.length ≤ 1048576) (hb:b.length ≤ 1048576):Ai6 R a b = some (BJ0 a b,()) ∧ AB6 R a b = some (BJ0 a b,()):=by
 have hl:(([1] ++ a) ++ b).length ≤ 549755813888:=by simp only [List.length_append,List.length_cons,List.length_nil];omega
 constructor
 ·rw [show Ai6 R a b = _ from call (BK9 R L a b),A0Q _ hl]
  simp (disch:=omega) only [st];rfl
 ·rw [show AB6 R a b = _ from call (A3x R L a b),A39 _ hl]
  simp (disch:=omega) only [st];rfl
theorem BS9 (i:Nat) {t:List UInt8} (ht:t.length ≤ 1048576):iT R (i:Int) t = some (A7C i t,()) ∧ aF R (i:Int) t = some (A7C i t,()):=by
 have e:List.map (fun n:Int=>UInt8.ofNat (Int.toNat n)) [(0:Int),IntKind.wrap .u8 (i:Int)] = ub [0,i % 256]:=by
  rw [sJ,show [(0:Int),((i % 256:Nat):Int)] = cl [0,i % 256] from rfl,Ap5]
 have hl:(ub [0,i % 256] ++ t).length ≤ 549755813888:=by rw [List.length_append,Ac9];simp only [List.length_cons,List.length_nil];omega
 have h2:(ub [0,i % 256]).length = 2:=rfl
 constructor
 ·rw [show iT R (i:Int) t = _ from call (Ar6 R L (i:Int) t),e,A0Q _ hl]
  simp (disch:=omega) only [st,h2];rfl
 ·rw [show aF R (i:Int) t = _ from call (A43 R L (i:Int) t),e,A39 _ hl]
  simp (disch:=omega) only [st,h2];rfl
def uM:List (List UInt8) → List (List UInt8)
 | a :: b :: r=>BJ0 a b :: uM r
 | _=>[]
def Sh (l:List (List UInt8)):Prop:=∀ s ∈ l,s.length ≤ 1048576
theorem aI:∀ l,Sh (uM l)
 | []=>fun s h=>by cases h
 | [_]=>fun s h=>by cases h
 | a :: b :: r=>fun s h=>by
  rcases List.mem_cons.1 h with rfl | h
  ·unfold BJ0;rw [A0H];decide
  ·exact aI r s h
theorem AF1:∀ l:List (List UInt8),(uM l).length = l.length / 2
 | []=>rfl
 | [x]=>by show 0 = 1 / 2;rfl
 | a :: b :: r=>by
  show (uM r).length + 1 = (r.length + 2) / 2
  rw [AF1 r];omega
theorem BA4 (v3:List (List UInt8)) (v6:List (List (List UInt8))) (hs:Sh v3) (h3:v3.length ≤ 64) (h6:v6.length ≤ 64):∀ (r v7:List (List UInt8)) (j:Nat),j ≤ v3.length → v3.drop j = r → r.length % 2 = 0 → v7.length + r.length ≤ 128 →
  iI R L v3 v6 v7 (j:Int) = qP R L (v7 ++ uM r) (v6 ++ [v7 ++ uM r])
 | [],v7,j,hj,hr,_,h7=>by
  have hj:v3.length ≤ j:=List.drop_eq_nil_iff.1 hr
  rw [show iI R L v3 v6 v7 (j:Int) = _ from round (by kernel_rfl) (Ax9 R L v3 v6 v7 (j:Int))]
  simp (disch:=omega) only [st,dF]
  rw [show uM [] = [] from rfl,List.append_nil]
 | [_],v7,j,hj,hr,h,h7=>by simp at h
 | a :: b :: r,v7,j,_,hr,h,h7=>by
  obtain ⟨d1,d2,d3,d4⟩:=Bk8 (d:=[]) hr
  have hj:=BQ8 (hs a (by rw [← d2];exact tD (by omega))) (hs b (by rw [← d3];exact tD (by omega)))
  simp only [List.length_cons] at h h7
  rw [show iI R L v3 v6 v7 (j:Int) = _ from round (by kernel_rfl) (Ax9 R L v3 v6 v7 (j:Int)),A3V (by omega),zB (by omega)]
  simp (disch:=omega) only [st,dT,d2,d3,hj.1]
  rw [BA4 v3 v6 hs h3 h6 r _ (j + 2) (by omega) d4 (by omega) (by rw [List.length_append];simp only [List.length_cons,List.length_nil];omega),List.append_assoc]
  rfl
theorem A8h (v3:List (List UInt8)) (hs:Sh v3) (h3:v3.length ≤ 64):∀ (r v7:List (List UInt8)) (j:Nat),j ≤ v3.length → v3.drop j = r → r.length % 2 = 0 → v7.length + r.length ≤ 128 →
  pA R L v3 v7 (j:Int) = some (v7 ++ uM r,())
 | [],v7,j,hj,hr,_,h7=>by
  have hj:v3.length ≤ j:=List.drop_eq_nil_iff.1 hr
  rw [show pA R L v3 v7 (j:Int) = _ from round (by kernel_rfl) (AN4 R L v3 v7 (j:Int)),zB (by omega)]
  simp (disch:=omega) only [st,dF]
  rw [show uM [] = [] from rfl,List.append_nil]
 | [_],v7,j,hj,hr,h,h7=>by simp at h
 | a :: b :: r,v7,j,_,hr,h,h7=>by
  obtain ⟨d1,d2,d3,d4⟩:=Bk8 (d:=[]) hr
  have hj:=BQ8 (hs a (by rw [← d2];exact tD (by omega))) (hs b (by rw [← d3];exact tD (by omega)))
  simp only [List.length_cons] at h h7
  rw [show pA R L v3 v7 (j:Int) = _ from round (by kernel_rfl) (AN4 R L v3 v7 (j:Int)),A3V (by omega),zB (by omega)]
  simp (disch:=omega) only [st,dT,d2,d3,hj.2]
  rw [A8h v3 hs h3 r _ (j + 2) (by omega) d4 (by omega) (by rw [List.length_append];simp only [List.length_cons,List.length_nil];omega),List.append_assoc]
  rfl
def sU (l:List (List UInt8)):List (List UInt8):=l.mapIdx A7C
theorem A3l (l:List (List UInt8)):(sU l).length = l.length:=List.length_mapIdx
theorem A0A (l:List (List UInt8)):Sh (sU l):=fun s h=>by
 obtain ⟨i,hi,rfl⟩:=List.mem_mapIdx.1 h
 unfold A7C;rw [A0H];decide
def A3n (l:List (List UInt8)):List UInt8:=(uM (uM (uM (uM (sU l))))).getD 0 []
theorem BL5 {v3:List (List UInt8)} {v6:List (List (List UInt8))} (hs:Sh v3) (h3:v3.length ≤ 64) (h1:1 < v3.length) (h2:v3.length % 2 = 0) (h6:v6.length ≤ 64):
  qP R L v3 v6 = qP R L (uM v3) (v6 ++ [uM v3]):=by
 rw [show qP R L v3 v6 = _ from round (by kernel_rfl) (Ay9 R L v3 v6)]
 simp (disch:=omega) only [st,dT]
 exact BA4 v3 v6 hs h3 h6 v3 [] 0 (Nat.zero_le _) rfl h2 (by simp only [List.length_nil];omega)
theorem BI8 {v3:List (List UInt8)} (hs:Sh v3) (h3:v3.length ≤ 64) (h1:1 < v3.length) (h2:v3.length % 2 = 0):qL R L v3 = qL R L (uM v3):=by
 have e:cI R v3 = some (uM v3,()):=Eq.trans (call (A2F R L v3):cI R v3 = _) (A8h v3 hs h3 v3 [] 0 (Nat.zero_le _) rfl h2 (by simp only [List.length_nil];omega))
 rw [show qL R L v3 = _ from round (by kernel_rfl) (AW7 R L v3),e]
 simp (disch:=omega) only [st,dT]
theorem BT3 {l:List (List UInt8)} (hl:l.length = 16) (hs:Sh l):Aj6 R l = some (A3n l,()) ∧ aL R l = some (A3n l,()):=by
 have a0:=A3l l
 have a1:=AF1 (sU l)
 have a2:=AF1 (uM (sU l))
 have a3:=AF1 (uM (uM (sU l)))
 have a4:=AF1 (uM (uM (uM (sU l))))
 constructor
 ·have e0:lV R L [] l (l.length:Int) 0 = qP R L (sU l) [sU l]:=
   A8D (fun o i=>lV R L o l (l.length:Int) i) l [] A7C (fun o=>qP R L o [o]) []
    (fun o ho=>by
     rw [show lV R L o l (l.length:Int) (l.length:Nat) = _ from round (by kernel_rfl) (Av7 R L o l (l.length:Int) (l.length:Nat))]
     simp (disch:=omega) only [st,dF])
    (fun o i hi ho=>by
     rw [show lV R L o l (l.length:Int) (i:Nat) = _ from round (by kernel_rfl) (Av7 R L o l (l.length:Int) (i:Nat)),zB (by omega)]
     simp only [List.length_nil] at ho
     simp (disch:=omega) only [st,dT,(BS9 i (hs _ (tD hi))).1])
  have e:Aj5 R l = some ([sU l,uM (sU l),uM (uM (sU l)),uM (uM (uM (sU l))),uM (uM (uM (uM (sU l))))],()):=by
   rw [show Aj5 R l = _ from call (BL1 R L l),e0,BL5 (A0A l) (by omega) (by omega) (by omega) (by simp),BL5 (aI _) (by omega) (by omega) (by omega) (by simp),BL5 (aI _) (by omega) (by omega) (by omega) (by simp),BL5 (aI _) (by omega) (by omega) (by omega) (by simp)]
   generalize hV:([sU l] ++ [uM (sU l)] ++ [uM (uM (sU l))] ++ [uM (uM (uM (sU l)))] ++ [uM (uM (uM (uM (sU l))))]) = V
   rw [show qP R L (uM (uM (uM (uM (sU l))))) V = _ from round (by kernel_rfl) (Ay9 R L _ _)]
   simp (disch:=omega) only [st,dF]
   rw [← hV];rfl
  rw [show Aj6 R l = _ from call (BI1 R L l),e]
  show cond (Nat.blt 4 5) (cond (Nat.blt 0 (uM (uM (uM (uM (sU l))))).length) (some (A3n l,())) none) none = _
  rw [yB (show 0 < (uM (uM (uM (uM (sU l))))).length by omega)];rfl
 ·have e:fJ R l = some (sU l,()):=Eq.trans (call (A0p R L l):fJ R l = _)
   (A8D (fun o i=>rY R L l o i) l [] A7C (fun o=>some (o,())) []
    (fun o ho=>by
     rw [show rY R L l o (l.length:Nat) = _ from round (by kernel_rfl) (AG3 R L l o (l.length:Nat))]
     simp (disch:=omega) only [st,dF])
    (fun o i hi ho=>by
     rw [show rY R L l o (i:Nat) = _ from round (by kernel_rfl) (AG3 R L l o (i:Nat)),zB (by omega)]
     simp only [List.length_nil] at ho
     simp (disch:=omega) only [st,dT,(BS9 i (hs _ (tD hi))).2]))
  rw [show aL R l = _ from call (A38 R L l),e]
  simp only [st]
  rw [BI8 (A0A l) (by omega) (by omega) (by omega),BI8 (aI _) (by omega) (by omega) (by omega),BI8 (aI _) (by omega) (by omega) (by omega),BI8 (aI _) (by omega) (by omega) (by omega)]
  rw [show qL R L (uM (uM (uM (uM (sU l))))) = _ from round (by kernel_rfl) (AW7 R L _)]
  simp (disch:=omega) only [st,dF]
  rfl
end Go.Rf.S

end
section
namespace Go.Rf.S
set_option maxRecDepth 100000
theorem AM5:∀ (n m:Nat) (v2 v3:List UInt8),v3.length + n ≤ 1048576 → m < 10 ^ n → m ≤ 4611686018427387904 → ∃ t,qZ R L m v2 v3 = some (t,())
 | 0,m,v2,v3,hl,hm,hb=>by
  have hq:qZ R L m v2 v3 = _:=round (by kernel_rfl) (AP2 R L m v2 v3)
  have hm:m = 0:=by simpa using hm
  rw [hq,show decide ((0:Int) < (m:Int)) = false from decide_eq_false (by omega)]
  simp only [cond_false]
  rw [vR (by simp only [List.length_cons,List.length_nil];omega)]
  exact ⟨_,rfl⟩
 | n + 1,m,v2,v3,hl,hm,hb=>by
  have hq:qZ R L m v2 v3 = _:=round (by kernel_rfl) (AP2 R L m v2 v3)
  by_cases h0:m = 0
  ·rw [hq,show decide ((0:Int) < (m:Int)) = false from decide_eq_false (by omega)]
   simp only [cond_false]
   rw [vR (by simp only [List.length_cons,List.length_nil];omega)]
   exact ⟨_,rfl⟩
  ·rw [hq,show decide ((0:Int) < (m:Int)) = true from decide_eq_true (by omega),vR (by simp only [List.length_map,List.length_cons,List.length_nil];omega)]
   simp only [cond_true]
   rw [show Int.tdiv (m:Int) 10 = ((m / 10:Nat):Int) from rfl,zH (n:=((m / 10:Nat):Int)) (by omega) (by omega)]
   exact AM5 n (m / 10) v2 _ (by simp only [List.length_append,List.length_map,List.length_cons,List.length_nil];omega) (by rw [Nat.pow_succ] at hm;omega) (by omega)
theorem A3C (m:Nat) (h:m ≤ 4611686018427387904):∃ t,qB R m = some (t,()):=by
 have hq:qB R m = _:=call (A2j R L m)
 rw [hq]
 by_cases h0:m = 0
 ·rw [show decide ((m:Int) ≤ (0:Int)) = true from decide_eq_true (by omega)];exact ⟨_,rfl⟩
 ·rw [show decide ((m:Int) ≤ (0:Int)) = false from decide_eq_false (by omega)]
  exact AM5 19 m [] [] (by simp) (Nat.lt_of_le_of_lt h (by decide)) h
noncomputable def mt (k:Nat):List UInt8:=((qB R k).getD ([],())).1
theorem AV0 (m:Nat) (h:m ≤ 4611686018427387904):qB R m = some (mt m,()):=by
 obtain ⟨t,e⟩:=A3C m h
 unfold mt
 rw [e];rfl
abbrev wX:Ty:=(.pair (.int .i64) (.pair (.int .i64) (.pair (.int .i64) (.pair (.int .i64) (.pair .str (.pair .str (.pair .str .unit)))))))
abbrev iE:Type:=(Int × (Int × (Int × (Int × (List UInt8 × (List UInt8 × (List UInt8 × Unit)))))))
theorem A4b (x:iE) (l:Int) (h0:0 ≤ l) (h1:l ≤ 1048576) (hx:Ak0 wX x):hJ R x l = some (szF (cnt wX x) l,()):=by
 have hq:hJ R x l = _:=call (At8 R L x l)
 have hc:cnt wX x = (0 + (0 + (0 + (0 + (x.2.2.2.2.1.length + (x.2.2.2.2.2.1.length + (x.2.2.2.2.2.2.1.length + (0)))))))):=rfl
 rw [hq]
 have k1:x.2.2.2.2.1.length ≤ maxLen:=hx.2.2.2.2.1
 unfold maxLen at k1
 rw [zH (n:=(l - (x.2.2.2.2.1.length:Int))) (by omega) (by omega)]
 by_cases n1:l - (x.2.2.2.2.1.length:Int) < 0
 ·rw [decide_eq_true n1,hc,AE2 (by omega)];rfl
 rw [decide_eq_false n1]
 simp only [cond_false]
 have k2:x.2.2.2.2.2.1.length ≤ maxLen:=hx.2.2.2.2.2.1
 unfold maxLen at k2
 rw [zH (n:=(l - (x.2.2.2.2.1.length:Int) - (x.2.2.2.2.2.1.length:Int))) (by omega) (by omega)]
 by_cases n2:l - (x.2.2.2.2.1.length:Int) - (x.2.2.2.2.2.1.length:Int) < 0
 ·rw [decide_eq_true n2,hc,AE2 (by omega)];rfl
 rw [decide_eq_false n2]
 simp only [cond_false]
 have k3:x.2.2.2.2.2.2.1.length ≤ maxLen:=hx.2.2.2.2.2.2.1
 unfold maxLen at k3
 rw [zH (n:=(l - (x.2.2.2.2.1.length:Int) - (x.2.2.2.2.2.1.length:Int) - (x.2.2.2.2.2.2.1.length:Int))) (by omega) (by omega)]
 by_cases n3:l - (x.2.2.2.2.1.length:Int) - (x.2.2.2.2.2.1.length:Int) - (x.2.2.2.2.2.2.1.length:Int) < 0
 ·rw [decide_eq_true n3,hc,AE2 (by omega)];rfl
 rw [decide_eq_false n3]
 simp only [cond_false]
 rw [hc,Ar7 (by omega)]
 exact congrArg (fun z=>some (z,())) (by omega)
theorem A7T (x:List (List UInt8)) (l:Int) (h0:0 ≤ l) (h1:l ≤ 1048576) (hx:Ak0 (.sl .str) x):fL R x l = some (szF (cnt (.sl .str) x) l,()):=by
 have hq:fL R x l = _:=call (A1K R L x l)
 have hm:x.length ≤ maxLen:=hx.1
 unfold maxLen at hm
 have hc:cnt (.sl .str) x = x.length + (x.map (cnt .str)).sum:=rfl
 rw [hq,zH (n:=l - (x.length:Int)) (by omega) (by omega)]
 by_cases n0:l - (x.length:Int) < 0
 ·rw [decide_eq_true n0,AE2 (by omega)];rfl
 rw [decide_eq_false n0]
 simp only [cond_false]
 have e:=A9T (fun l i=>vP R L x l 0 i) x ([]:List UInt8) (cnt .str) (fun l=>by
  have hq:vP R L x l 0 (x.length:Nat) = _:=round (by kernel_rfl) (AI3 R L x l 0 (x.length:Nat))
  show vP R L x l 0 (x.length:Nat) = _
  rw [hq,AG7 (Nat.le_refl _)];rfl) (fun l i hlt h0 h1=>by
  have hq:vP R L x l 0 i = _:=round (by kernel_rfl) (AI3 R L x l 0 i)
  have hm:=A5n (t:=.str) hx _ (tD (d:=([]:List UInt8)) hlt)
  show vP R L x l 0 i = _
  rw [hq,AE5 hlt,nn,tn,yB hlt,zB (i:=i) (by omega)]
  simp only [cond_true]
  have hm:(x.getD i []).length ≤ maxLen:=hm
  unfold maxLen at hm
  show _ = if ((x.getD i []).length:Int) ≤ l then vP R L x (l - ((x.getD i []).length:Int)) 0 ((i + 1:Nat):Int) else some (-1,())
  rw [zH (n:=l - ((x.getD i []).length:Int)) (by omega) (by omega)]
  by_cases n:((x.getD i []).length:Int) ≤ l
  ·rw [if_pos n,decide_eq_false (by omega)];rfl
  ·rw [if_neg n,decide_eq_true (by omega)];rfl) _ 0 (l - (x.length:Int)) rfl (Nat.zero_le _) (by omega) (by omega)
 rw [hc,← A9t (by omega)]
 exact e
abbrev lP:Ty:=(.pair (.int .i64) (.pair .str .unit))
abbrev A0f:Type:=(Int × (List UInt8 × Unit))
theorem Br4 (x:A0f) (l:Int) (h0:0 ≤ l) (h1:l ≤ 1048576) (hx:Ak0 lP x):Aj3 R x l = some (szF (cnt lP x) l,()):=by
 have hq:Aj3 R x l = _:=call (BH7 R L x l)
 have hc:cnt lP x = (0 + (x.2.1.length + (0))):=rfl
 rw [hq]
 have k1:x.2.1.length ≤ maxLen:=hx.2.1
 unfold maxLen at k1
 rw [zH (n:=(l - (x.2.1.length:Int))) (by omega) (by omega)]
 by_cases n1:l - (x.2.1.length:Int) < 0
 ·rw [decide_eq_true n1,hc,AE2 (by omega)];rfl
 rw [decide_eq_false n1]
 simp only [cond_false]
 rw [hc,Ar7 (by omega)]
 exact congrArg (fun z=>some (z,())) (by omega)
theorem Bi4 (x:List (A0f)) (l:Int) (h0:0 ≤ l) (h1:l ≤ 1048576) (hx:Ak0 (.sl lP) x):AW5 R x l = some (szF (cnt (.sl lP) x) l,()):=by
 have hq:AW5 R x l = _:=call (A9X R L x l)
 have hm:x.length ≤ maxLen:=hx.1
 unfold maxLen at hm
 have hc:cnt (.sl lP) x = x.length + (x.map (cnt lP)).sum:=rfl
 rw [hq,zH (n:=l - (x.length:Int)) (by omega) (by omega)]
 by_cases n0:l - (x.length:Int) < 0
 ·rw [decide_eq_true n0,AE2 (by omega)];rfl
 rw [decide_eq_false n0]
 simp only [cond_false]
 have e:=A9T (fun l i=>pP R L x l 0 i) x ((0:Int),(([]:List UInt8),())) (cnt lP) (fun l=>by
  have hq:pP R L x l 0 (x.length:Nat) = _:=round (by kernel_rfl) (Ap9 R L x l 0 (x.length:Nat))
  show pP R L x l 0 (x.length:Nat) = _
  rw [hq,AG7 (Nat.le_refl _)];rfl) (fun l i hlt h0 h1=>by
  have hq:pP R L x l 0 i = _:=round (by kernel_rfl) (Ap9 R L x l 0 i)
  have hm:=A5n (t:=lP) hx _ (tD (d:=((0:Int),(([]:List UInt8),()))) hlt)
  show pP R L x l 0 i = _
  rw [hq,AE5 hlt,nn,tn,yB hlt,zB (i:=i) (by omega)]
  simp only [cond_true]
  rw [Br4 _ l h0 h1 hm]
  simp only [Option.bind_some]
  by_cases n:((cnt lP (x.getD i ((0:Int),(([]:List UInt8),()))):Nat):Int) ≤ l
  ·rw [if_pos n,Ar7 n,decide_eq_false (by omega)];rfl
  ·rw [if_neg n,AE2 (by omega)];rfl) _ 0 (l - (x.length:Int)) rfl (Nat.zero_le _) (by omega) (by omega)
 rw [hc,← A9t (by omega)]
 exact e
abbrev vA:Ty:=(.pair (.sl .str) (.pair (.sl lP) .unit))
abbrev oG:Type:=(List (List UInt8) × (List (A0f) × Unit))
theorem A9U (x:oG) (l:Int) (h0:0 ≤ l) (h1:l ≤ 1048576) (hx:Ak0 vA x):dX R x l = some (szF (cnt vA x) l,()):=by
 have hq:dX R x l = _:=call (A2D R L x l)
 have hc:cnt vA x = (cnt (.sl .str) x.1 + (cnt (.sl lP) x.2.1 + (0))):=rfl
 rw [hq]
 rw [A7T x.1 (l) (by omega) (by omega) hx.1]
 simp only [Option.bind_some]
 by_cases n1:l < (cnt (.sl .str) x.1:Int)
 ·rw [AE2 n1,hc,AE2 (by omega)];rfl
 rw [Ar7 (by omega),show decide (l - (cnt (.sl .str) x.1:Int) < 0) = false from decide_eq_false (by omega)]
 simp only [cond_false]
 rw [Bi4 x.2.1 (l - (cnt (.sl .str) x.1:Int)) (by omega) (by omega) hx.2.1]
 simp only [Option.bind_some]
 by_cases n2:l - (cnt (.sl .str) x.1:Int) < (cnt (.sl lP) x.2.1:Int)
 ·rw [AE2 n2,hc,AE2 (by omega)];rfl
 rw [Ar7 (by omega),show decide (l - (cnt (.sl .str) x.1:Int) - (cnt (.sl lP) x.2.1:Int) < 0) = false from decide_eq_false (by omega)]
 simp only [cond_false]
 rw [hc,Ar7 (by omega)]
 exact congrArg (fun z=>some (z,())) (by omega)
abbrev tC:Ty:=(.pair .str (.pair wX (.pair vA (.pair .bool (.pair .bool .unit)))))
abbrev yD:Type:=(List UInt8 × (iE × (oG × (Bool × (Bool × Unit)))))
theorem BL6 (x:yD) (l:Int) (h0:0 ≤ l) (h1:l ≤ 1048576) (hx:Ak0 tC x):aJ R x l = some (szF (cnt tC x) l,()):=by
 have hq:aJ R x l = _:=call (A4Z R L x l)
 have hc:cnt tC x = (x.1.length + (cnt wX x.2.1 + (cnt vA x.2.2.1 + (0 + (0 + (0)))))):=rfl
 rw [hq]
 have k1:x.1.length ≤ maxLen:=hx.1
 unfold maxLen at k1
 rw [zH (n:=(l - (x.1.length:Int))) (by omega) (by omega)]
 by_cases n1:l - (x.1.length:Int) < 0
 ·rw [decide_eq_true n1,hc,AE2 (by omega)];rfl
 rw [decide_eq_false n1]
 simp only [cond_false]
 rw [A4b x.2.1 (l - (x.1.length:Int)) (by omega) (by omega) hx.2.1]
 simp only [Option.bind_some]
 by_cases n2:l - (x.1.length:Int) < (cnt wX x.2.1:Int)
 ·rw [AE2 n2,hc,AE2 (by omega)];rfl
 rw [Ar7 (by omega),show decide (l - (x.1.length:Int) - (cnt wX x.2.1:Int) < 0) = false from decide_eq_false (by omega)]
 simp only [cond_false]
 rw [A9U x.2.2.1 (l - (x.1.length:Int) - (cnt wX x.2.1:Int)) (by omega) (by omega) hx.2.2.1]
 simp only [Option.bind_some]
 by_cases n3:l - (x.1.length:Int) - (cnt wX x.2.1:Int) < (cnt vA x.2.2.1:Int)
 ·rw [AE2 n3,hc,AE2 (by omega)];rfl
 rw [Ar7 (by omega),show decide (l - (x.1.length:Int) - (cnt wX x.2.1:Int) - (cnt vA x.2.2.1:Int) < 0) = false from decide_eq_false (by omega)]
 simp only [cond_false]
 rw [hc,Ar7 (by omega)]
 exact congrArg (fun z=>some (z,())) (by omega)
theorem A4e (x:iE) (hx:cnt wX x ≤ 1048576):iW R x = some (x,()):=by
 have hq:iW R x = _:=call (At6 R L x)
 have hc:cnt wX x = (0 + (0 + (0 + (0 + (x.2.2.2.2.1.length + (x.2.2.2.2.2.1.length + (x.2.2.2.2.2.2.1.length + (0)))))))):=rfl
 refine hq.trans ?_
 rfl
theorem A7s (x:List (List UInt8)) (hx:cnt (.sl .str) x ≤ 1048576):fV R x = some (x,()):=by
 have hq:fV R x = _:=call (A1A R L x)
 have hc:cnt (.sl .str) x = x.length + (x.map (cnt .str)).sum:=rfl
 rw [hq,A6d,tn,vR (by omega)]
 refine A9P (fun w i=>uX R L x [] w i) x ([]:List UInt8) (fun w hw=>?_) (fun w i hlt hw=>?_) _ 0 _ rfl (Nat.zero_le _) (by simp) (fun j hj=>by omega)
 ·have hq:uX R L x [] w (x.length:Nat) = _:=round (by kernel_rfl) (AF9 R L x [] w (x.length:Nat))
  show uX R L x [] w (x.length:Nat) = _
  rw [hq,AG7 (Nat.le_refl _)];rfl
 ·have hq:uX R L x [] w i = _:=round (by kernel_rfl) (AF9 R L x [] w i)
  show uX R L x [] w i = _
  rw [hq,AE5 hlt,nn,tn,yB hlt,yB (n:=w.length) (by omega),zB (i:=i) (by omega)]
  rfl
theorem Br5 (x:A0f) (hx:cnt lP x ≤ 1048576):Ai7 R x = some (x,()):=by
 have hq:Ai7 R x = _:=call (BM7 R L x)
 have hc:cnt lP x = (0 + (x.2.1.length + (0))):=rfl
 refine hq.trans ?_
 rfl
theorem Bl9 (x:List (A0f)) (hx:cnt (.sl lP) x ≤ 1048576):AU7 R x = some (x,()):=by
 have hq:AU7 R x = _:=call (BA8 R L x)
 have hc:cnt (.sl lP) x = x.length + (x.map (cnt lP)).sum:=rfl
 rw [hq,A6d,tn,vR (by omega)]
 refine A9P (fun w i=>pO R L x [] w i) x ((0:Int),(([]:List UInt8),())) (fun w hw=>?_) (fun w i hlt hw=>?_) _ 0 _ rfl (Nat.zero_le _) (by simp) (fun j hj=>by omega)
 ·have hq:pO R L x [] w (x.length:Nat) = _:=round (by kernel_rfl) (An6 R L x [] w (x.length:Nat))
  show pO R L x [] w (x.length:Nat) = _
  rw [hq,AG7 (Nat.le_refl _)];rfl
 ·have hq:pO R L x [] w i = _:=round (by kernel_rfl) (An6 R L x [] w i)
  show pO R L x [] w i = _
  rw [hq,AE5 hlt,nn,tn,yB hlt,yB (n:=w.length) (by omega),zB (i:=i) (by omega)]
  have hm:cnt lP (x.getD i ((0:Int),(([]:List UInt8),()))) ≤ cnt (.sl lP) x:=BE4 (t:=lP) (x:=x) (d:=((0:Int),(([]:List UInt8),()))) hlt
  rw [Br5 _ (by omega)]
  rfl
theorem BB2 (x:oG) (hx:cnt vA x ≤ 1048576):dR R x = some (x,()):=by
 have hq:dR R x = _:=call (A3D R L x)
 have hc:cnt vA x = (cnt (.sl .str) x.1 + (cnt (.sl lP) x.2.1 + (0))):=rfl
 refine hq.trans ?_
 rw [A7s x.1 (by omega)]
 simp only [Option.bind_some]
 rw [Bl9 x.2.1 (by omega)]
 rfl
theorem BG7 (x:yD) (hx:cnt tC x ≤ 1048576):lW R x = some (x,()):=by
 have hq:lW R x = _:=call (A5K R L x)
 have hc:cnt tC x = (x.1.length + (cnt wX x.2.1 + (cnt vA x.2.2.1 + (0 + (0 + (0)))))):=rfl
 refine hq.trans ?_
 rw [A4e x.2.1 (by omega)]
 simp only [Option.bind_some]
 rw [BB2 x.2.2.1 (by omega)]
 rfl
theorem A3h (x:iE) (hx:cnt wX x ≤ 1048576):iU R x x = some (true,()):=by
 have hq:iU R x x = _:=call (At2 R L x x)
 have hc:cnt wX x = (0 + (0 + (0 + (0 + (x.2.2.2.2.1.length + (x.2.2.2.2.2.1.length + (x.2.2.2.2.2.2.1.length + (0)))))))):=rfl
 rw [hq]
 simp only [vK,gV,eqB,decide_true,Bool.not_true,cond_false,Option.bind_some]
theorem A6w (x:List (List UInt8)) (hx:cnt (.sl .str) x ≤ 1048576):fU R x x = some (true,()):=by
 have hq:fU R x x = _:=call (A0g R L x x)
 have hc:cnt (.sl .str) x = x.length + (x.map (cnt .str)).sum:=rfl
 rw [hq]
 simp only [vK,decide_true,Bool.not_true,cond_false]
 refine BA3 (fun i=>uZ R L x x false i) x ?_ (fun i hlt=>?_) _ 0 rfl (Nat.zero_le _)
 ·have hq:uZ R L x x false (x.length:Nat) = _:=round (by kernel_rfl) (AF4 R L x x false (x.length:Nat))
  show uZ R L x x false (x.length:Nat) = _
  rw [hq,AG7 (Nat.le_refl _)];rfl
 ·have hq:uZ R L x x false i = _:=round (by kernel_rfl) (AF4 R L x x false i)
  show uZ R L x x false i = _
  rw [hq,AE5 hlt,nn,tn,yB hlt,zB (i:=i) (by omega)]
  simp only [cond_true,vK,gV,decide_true,Bool.not_true,cond_false]
theorem Bp6 (x:A0f) (hx:cnt lP x ≤ 1048576):Ai1 R x x = some (true,()):=by
 have hq:Ai1 R x x = _:=call (BN0 R L x x)
 have hc:cnt lP x = (0 + (x.2.1.length + (0))):=rfl
 rw [hq]
 simp only [vK,gV,eqB,decide_true,Bool.not_true,cond_false,Option.bind_some]
theorem Bf4 (x:List (A0f)) (hx:cnt (.sl lP) x ≤ 1048576):AV7 R x x = some (true,()):=by
 have hq:AV7 R x x = _:=call (BF4 R L x x)
 have hc:cnt (.sl lP) x = x.length + (x.map (cnt lP)).sum:=rfl
 rw [hq]
 simp only [vK,decide_true,Bool.not_true,cond_false]
 refine BA3 (fun i=>pQ R L x x false i) x ?_ (fun i hlt=>?_) _ 0 rfl (Nat.zero_le _)
 ·have hq:pQ R L x x false (x.length:Nat) = _:=round (by kernel_rfl) (An0 R L x x false (x.length:Nat))
  show pQ R L x x false (x.length:Nat) = _
  rw [hq,AG7 (Nat.le_refl _)];rfl
 ·have hq:pQ R L x x false i = _:=round (by kernel_rfl) (An0 R L x x false i)
  show pQ R L x x false i = _
  rw [hq,AE5 hlt,nn,tn,yB hlt,zB (i:=i) (by omega)]
  have hm:cnt lP (x.getD i ((0:Int),(([]:List UInt8),()))) ≤ cnt (.sl lP) x:=BE4 (t:=lP) (x:=x) (d:=((0:Int),(([]:List UInt8),()))) hlt
  simp only [cond_true]
  rw [Bp6 _ (by omega)]
  simp only [Option.bind_some,Bool.not_true,cond_false]
theorem A8x (x:oG) (hx:cnt vA x ≤ 1048576):dY R x x = some (true,()):=by
 have hq:dY R x x = _:=call (A2d R L x x)
 have hc:cnt vA x = (cnt (.sl .str) x.1 + (cnt (.sl lP) x.2.1 + (0))):=rfl
 have e1:=A6w x.1 (by omega)
 have e2:=Bf4 x.2.1 (by omega)
 rw [hq]
 simp only [vK,gV,eqB,decide_true,Bool.not_true,cond_false,Option.bind_some,e1,e2]
theorem A5o (x:yD) (hx:cnt tC x ≤ 1048576):lU R x x = some (true,()):=by
 have hq:lU R x x = _:=call (A4F R L x x)
 have hc:cnt tC x = (x.1.length + (cnt wX x.2.1 + (cnt vA x.2.2.1 + (0 + (0 + (0)))))):=rfl
 have e1:=A3h x.2.1 (by omega)
 have e2:=A8x x.2.2.1 (by omega)
 rw [hq]
 simp only [vK,gV,eqB,decide_true,Bool.not_true,cond_false,Option.bind_some,e1,e2]
theorem A14 (x:List (List UInt8)) (k:Nat) (hl:gG (.sl .str) x ≤ 4611686018427387904) (h:k + nmk false (.sl .str) x ≤ 4611686018427387904):kN R x k = some ((((mk_ mt false (.sl .str) x k).2:Nat):Int),((mk_ mt false (.sl .str) x k).1,())):=by
 have hq:kN R x k = _:=call (Ao4 R L x k)
 have hc:nmk false (.sl .str) x = (x.map (nmk true .str)).sum:=rfl
 have hn:gG (.sl .str) x = x.length + (x.map (gG .str)).sum:=rfl
 have e:=A1U (fun w k i=>vC R L w k 0 i) x.length ([]:List UInt8) (mk_ mt true .str) (nmk true .str) 4611686018427387904 (AM9 mt true .str) (fun y=>gG .str y ≤ 4611686018427387904) (fun w k hw=>by
  have hq:vC R L w k 0 (x.length:Nat) = _:=round (by kernel_rfl) (bP R L w k 0 (x.length:Nat))
  show vC R L w k 0 (x.length:Nat) = _
  rw [hq,AG7 (by omega)];rfl) (fun w k i hw hlt hb hQ=>by
  have hlt:i < w.length:=by omega
  have hq:vC R L w k 0 i = _:=round (by kernel_rfl) (bP R L w k 0 i)
  show vC R L w k 0 i = _
  have hb:k + 1 ≤ 4611686018427387904:=hb
  have f1:=AV0 (k) (by omega)
  have f2:=zB (i:=k) (by omega)
  have fi:=zB (i:=i) (by omega)
  rw [hq,AE5 hlt]
  simp only [nn,tn,yB hlt,cond_true,List.length_set,ss,gs hlt,fi,Option.bind_some,f1,f2]
  rfl) _ 0 x k rfl (Nat.zero_le _) rfl (by rw [List.drop_zero];exact h) (by rw [List.drop_zero];exact fun y hy=>Nat.le_trans (A42 (t:=.str) hy) hl)
 rw [hq]
 exact e
theorem BJ1 (x:List (A0f)) (k:Nat) (hl:gG (.sl lP) x ≤ 4611686018427387904) (h:k + nmk false (.sl lP) x ≤ 4611686018427387904):AB2 R x k = some ((((mk_ mt false (.sl lP) x k).2:Nat):Int),((mk_ mt false (.sl lP) x k).1,())):=by
 have hq:AB2 R x k = _:=call (A4A R L x k)
 have hc:nmk false (.sl lP) x = (x.map (nmk true lP)).sum:=rfl
 have hn:gG (.sl lP) x = x.length + (x.map (gG lP)).sum:=rfl
 have e:=A1U (fun w k i=>rC R L w k 0 i) x.length ((0:Int),(([]:List UInt8),())) (mk_ mt true lP) (nmk true lP) 4611686018427387904 (AM9 mt true lP) (fun y=>gG lP y ≤ 4611686018427387904) (fun w k hw=>by
  have hq:rC R L w k 0 (x.length:Nat) = _:=round (by kernel_rfl) (AV1 R L w k 0 (x.length:Nat))
  show rC R L w k 0 (x.length:Nat) = _
  rw [hq,AG7 (by omega)];rfl) (fun w k i hw hlt hb hQ=>by
  have hlt:i < w.length:=by omega
  have hq:rC R L w k 0 i = _:=round (by kernel_rfl) (AV1 R L w k 0 i)
  show rC R L w k 0 i = _
  have hQ:(0 + (0 + (0))) ≤ 4611686018427387904:=hQ
  have hb:k + (1 + (1 + (0))) ≤ 4611686018427387904:=hb
  have f1:=zB (i:=k) (by omega)
  have f2:=AV0 (k + 1) (by omega)
  have f3:=zB (i:=k + 1) (by omega)
  have fi:=zB (i:=i) (by omega)
  rw [hq,AE5 hlt]
  simp only [nn,tn,yB hlt,cond_true,List.length_set,ss,gs hlt,fi,Option.bind_some,f1,f2,f3]
  rfl) _ 0 x k rfl (Nat.zero_le _) rfl (by rw [List.drop_zero];exact h) (by rw [List.drop_zero];exact fun y hy=>Nat.le_trans (A42 (t:=lP) hy) hl)
 rw [hq]
 exact e
theorem A4k (x:oG) (k:Nat) (hl:gG vA x ≤ 4611686018427387904) (h:k + nmk false vA x ≤ 4611686018427387904):hU R x k = some ((((mk_ mt false vA x k).2:Nat):Int),((mk_ mt false vA x k).1,())):=by
 have hq:hU R x k = _:=call (As9 R L x k)
 have hn:gG vA x = (gG (.sl .str) x.1 + (gG (.sl lP) x.2.1 + (0))):=rfl
 have hc:nmk false vA x = (nmk false (.sl .str) x.1 + (nmk false (.sl lP) x.2.1 + (0))):=rfl
 rw [hq]
 refine A3q (A14 x.1 (k) (by omega) (by omega)) ?_
 have s1:=AM9 mt false (.sl .str) x.1 (k)
 refine A3q (BJ1 x.2.1 ((mk_ mt false (.sl .str) x.1 (k)).2) (by omega) (by omega)) ?_
 have s2:=AM9 mt false (.sl lP) x.2.1 ((mk_ mt false (.sl .str) x.1 (k)).2)
 rfl
theorem A7f (x:yD) (k:Nat) (hl:gG tC x ≤ 4611686018427387904) (h:k + nmk false tC x ≤ 4611686018427387904):qD R x k = some ((((mk_ mt false tC x k).2:Nat):Int),((mk_ mt false tC x k).1,())):=by
 have hq:qD R x k = _:=call (A1X R L x k)
 have hn:gG tC x = (0 + (gG wX x.2.1 + (gG vA x.2.2.1 + (0 + (0 + (0)))))):=rfl
 have hc:nmk false tC x = (0 + (nmk false wX x.2.1 + (nmk false vA x.2.2.1 + (0 + (0 + (0)))))):=rfl
 rw [hq]
 refine A3q (A4k x.2.2.1 (k) (by omega) (by omega)) ?_
 have s1:=AM9 mt false vA x.2.2.1 (k)
 rfl
theorem A19 (x:List (List UInt8)) (k k':Nat) (hl:gG (.sl .str) x ≤ 4611686018427387904) (h:k' ≤ 4611686018427387904) (hh:hd_ mt false (.sl .str) x k = some k'):jH R x k = some ((k':Int),()):=by
 have hq:jH R x k = _:=call (An8 R L x k)
 have hn:gG (.sl .str) x = x.length + (x.map (gG .str)).sum:=rfl
 have e:=A02 (fun k i=>vB R L x k 0 i) x ([]:List UInt8) (hd_ mt true .str) (nmk true .str) 4611686018427387904 (bQ mt true .str) (fun k=>by
  have hq:vB R L x k 0 (x.length:Nat) = _:=round (by kernel_rfl) (bL R L x k 0 (x.length:Nat))
  show vB R L x k 0 (x.length:Nat) = _
  rw [hq,AG7 (Nat.le_refl _)];rfl) (fun k i k' hlt hh hb=>by
  have hq:vB R L x k 0 i = _:=round (by kernel_rfl) (bL R L x k 0 i)
  show vB R L x k 0 i = _
  have hm:gG .str (x.getD i ([]:List UInt8)) ≤ gG (.sl .str) x:=A6G (t:=.str) (x:=x) (d:=([]:List UInt8)) hlt
  have fi:=zB (i:=i) (by omega)
  obtain ⟨g1,hh⟩:=A9M hh
  have g1:eqS (x.getD i ([]:List UInt8)) (mt (k)) = true:=g1
  injection hh with hh
  have m1:=AV0 (k) (by omega)
  have w1:=zB (i:=k) (by omega)
  rw [hq,AE5 hlt]
  simp only [nn,tn,yB hlt,cond_true,fi,Option.bind_some,Bf7,cond_false,Bool.not_true,m1,g1,w1]
  rw [← hh]) _ 0 k k' rfl (Nat.zero_le _) h (by rw [List.drop_zero];exact hh)
 rw [hq]
 exact e
theorem BN5 (x:List (A0f)) (k k':Nat) (hl:gG (.sl lP) x ≤ 4611686018427387904) (h:k' ≤ 4611686018427387904) (hh:hd_ mt false (.sl lP) x k = some k'):AB5 R x k = some ((k':Int),()):=by
 have hq:AB5 R x k = _:=call (A4h R L x k)
 have hn:gG (.sl lP) x = x.length + (x.map (gG lP)).sum:=rfl
 have e:=A02 (fun k i=>rH R L x k 0 i) x ((0:Int),(([]:List UInt8),())) (hd_ mt true lP) (nmk true lP) 4611686018427387904 (bQ mt true lP) (fun k=>by
  have hq:rH R L x k 0 (x.length:Nat) = _:=round (by kernel_rfl) (AU2 R L x k 0 (x.length:Nat))
  show rH R L x k 0 (x.length:Nat) = _
  rw [hq,AG7 (Nat.le_refl _)];rfl) (fun k i k' hlt hh hb=>by
  have hq:rH R L x k 0 i = _:=round (by kernel_rfl) (AU2 R L x k 0 i)
  show rH R L x k 0 i = _
  have hm:gG lP (x.getD i ((0:Int),(([]:List UInt8),()))) ≤ gG (.sl lP) x:=A6G (t:=lP) (x:=x) (d:=((0:Int),(([]:List UInt8),()))) hlt
  have fi:=zB (i:=i) (by omega)
  have hm:(0 + (0 + (0))) ≤ _:=hm
  obtain ⟨g1,hh⟩:=A1m hh
  have g1:eqI (x.getD i ((0:Int),(([]:List UInt8),()))).1 ((k:Nat):Int) = true:=g1
  obtain ⟨g2,hh⟩:=A1m hh
  have g2:eqS (x.getD i ((0:Int),(([]:List UInt8),()))).2.1 (mt (k + 1)) = true:=g2
  have hh:some (k + 1 + 1) = some k':=hh
  injection hh with hh
  have w1:=zB (i:=k) (by omega)
  have m2:=AV0 (k + 1) (by omega)
  have w2:=zB (i:=k + 1) (by omega)
  rw [hq,AE5 hlt]
  simp only [nn,tn,yB hlt,cond_true,fi,Option.bind_some,Bf7,cond_false,Bool.not_true,g1,w1,m2,g2,w2]
  rw [← hh]) _ 0 k k' rfl (Nat.zero_le _) h (by rw [List.drop_zero];exact hh)
 rw [hq]
 exact e
theorem A4E (x:oG) (k k':Nat) (hl:gG vA x ≤ 4611686018427387904) (h:k' ≤ 4611686018427387904) (hh:hd_ mt false vA x k = some k'):gF R x k = some ((k':Int),()):=by
 have hq:gF R x k = _:=call (Ar5 R L x k)
 rw [hq]
 have hn:gG vA x = (gG (.sl .str) x.1 + (gG (.sl lP) x.2.1 + (0))):=rfl
 obtain ⟨k1,g1,hh⟩:=Option.bind_eq_some_iff.1 hh
 have s1:=bQ mt false _ _ _ _ g1
 obtain ⟨k2,g2,hh⟩:=Option.bind_eq_some_iff.1 hh
 have s2:=bQ mt false _ _ _ _ g2
 cases hh
 rw [A19 x.1 _ _ (by omega) (by omega) g1]
 simp only [Option.bind_some,Bf7,cond_false]
 rw [BN5 x.2.1 _ _ (by omega) (by omega) g2]
 simp only [Option.bind_some,Bf7,cond_false]
 all_goals rfl
theorem A6r (x:yD) (k k':Nat) (hl:gG tC x ≤ 4611686018427387904) (h:k' ≤ 4611686018427387904) (hh:hd_ mt false tC x k = some k'):oC R x k = some ((k':Int),()):=by
 have hq:oC R x k = _:=call (A1Q R L x k)
 rw [hq]
 have hn:gG tC x = (0 + (gG wX x.2.1 + (gG vA x.2.2.1 + (0 + (0 + (0)))))):=rfl
 obtain ⟨k1,g1,hh⟩:=Option.bind_eq_some_iff.1 hh
 have s1:=bQ mt false _ _ _ _ g1
 obtain ⟨k2,g2,hh⟩:=Option.bind_eq_some_iff.1 hh
 have s2:=bQ mt false _ _ _ _ g2
 obtain ⟨k3,g3,hh⟩:=Option.bind_eq_some_iff.1 hh
 have s3:=bQ mt false _ _ _ _ g3
 obtain ⟨k4,g4,hh⟩:=Option.bind_eq_some_iff.1 hh
 have s4:=bQ mt false _ _ _ _ g4
 obtain ⟨k5,g5,hh⟩:=Option.bind_eq_some_iff.1 hh
 have s5:=bQ mt false _ _ _ _ g5
 cases hh
 cases g1
 cases g2
 rw [A4E x.2.2.1 _ _ (by omega) (by omega) g3]
 simp only [Option.bind_some,Bf7,cond_false]
 cases g4
 cases g5
 all_goals rfl
theorem AX2 (R:Run EE) (s0:Int) (a0:FnVal):vS EE R (.mk 268 (.fn a0 .nil)) [⟨(.int .i64),s0⟩] = (iH R s0 a0).map (·.1):=by kernel_rfl
theorem AE3 (R:Run EE) (s0:(Int × (Int × (Int × Unit)))) (a0:FnVal):vS EE R (.mk 334 (.fn a0 .nil)) [⟨(.pair (.int .i64) (.pair (.int .i64) (.pair (.int .i64) .unit))),s0⟩] = (mC R s0 a0).map (·.1):=by kernel_rfl
abbrev A7g:FuncId:=205
theorem A3s (R:Run EE) (s0:Int)  : vS EE R (.mk 205 .nil) [⟨(.int .i64),s0⟩] = (kH R s0 ).map (·.1):=by kernel_rfl
theorem A17 (R:Run EE) (s0:(Int × (Int × (Int × Unit)))) (a0:Int):vS EE R (.mk 292 (.int .i64 a0 .nil)) [⟨(.pair (.int .i64) (.pair (.int .i64) (.pair (.int .i64) .unit))),s0⟩] = (AR9 R s0 a0).map (·.1):=by kernel_rfl
theorem AE1 (R:Run EE) (s0:Int)  : vS EE R (.mk 290 .nil) [⟨(.int .i64),s0⟩] = (nW R s0 ).map (·.1):=by kernel_rfl
theorem AE8 (R:Run EE) (s0:List UInt8) (a0:FnVal):vS EE R (.mk 254 (.fn a0 .nil)) [⟨.str,s0⟩] = (lA R s0 a0).map (·.1):=by kernel_rfl
theorem AQ7 (R:Run EE) (s0:A0f) (a0:FnVal):vS EE R (.mk 331 (.fn a0 .nil)) [⟨lP,s0⟩] = (jO R s0 a0).map (·.1):=by kernel_rfl
theorem As3 (R:Run EE) (s0:List UInt8)  : vS EE R (.mk 285 .nil) [⟨.str,s0⟩] = (kM R s0 ).map (·.1):=by kernel_rfl
theorem Am9 (R:Run EE) (s0:A0f)  : vS EE R (.mk 287 .nil) [⟨lP,s0⟩] = (hM R s0 ).map (·.1):=by kernel_rfl
theorem AA8 (R:Run EE) (s0:(Int × (List (Int) × Unit))) (a0:FnVal):vS EE R (.mk 299 (.fn a0 .nil)) [⟨(.pair (.int .i64) (.pair (.sl (.int .i64)) .unit)),s0⟩] = (oX R s0 a0).map (·.1):=by kernel_rfl
theorem A1r (R:Run EE) (s0:Int)  : vS EE R (.mk 235 .nil) [⟨(.int .i64),s0⟩] = (dE R s0 ).map (·.1):=by kernel_rfl
theorem A06 (R:Run EE) (s0:(Int × (List (Int) × Unit)))  : vS EE R (.mk 239 .nil) [⟨(.pair (.int .i64) (.pair (.sl (.int .i64)) .unit)),s0⟩] = (dN R s0 ).map (·.1):=by kernel_rfl
theorem iM (x:List (Int)) (w:FnVal) (p:Int → Bool) (hl:x.length ≤ 4611686018427387904) (hp:∀ s ∈ x,vS EE R w [⟨(.int .i64),s⟩] = some (p s)):vN R x w = some (BG2 p x 0,()):=by
 have hq:vN R x w = _:=call (gU R L x w)
 have hq0:tA R L x w 0 x.length 0 = _:=round (by kernel_rfl) (iR R L x w 0 x.length 0)
 have hq1:zN R L x w 0 0 x.length 0 = _:=round (by kernel_rfl) (tQ R L x w 0 0 x.length 0)
 rw [hq,hq0.trans hq1.symm]
 refine Aa6 (fun a i=>zN R L x w 0 a x.length i) x (0:Int) p (fun a=>?_) (fun a i hlt=>?_) _ 0 0 rfl (Nat.zero_le _)
 ·have hq:zN R L x w 0 a x.length (x.length:Nat) = _:=round (by kernel_rfl) (tQ R L x w 0 a x.length (x.length:Nat))
  show zN R L x w 0 a x.length (x.length:Nat) = _
  rw [hq,AG7 (Nat.le_refl _)];rfl
 ·have hq:zN R L x w 0 a x.length i = _:=round (by kernel_rfl) (tQ R L x w 0 a x.length i)
  show zN R L x w 0 a x.length i = _
  rw [hq,AE5 hlt,nn,tn,yB hlt,zB (by omega)]
  simp only [cond_true]
  rw [hp _ (tD (d:=(0:Int)) hlt)]
  rfl
theorem mA (x:List ((Int × (Int × (Int × Unit))))) (w:FnVal) (p:(Int × (Int × (Int × Unit))) → Bool) (hl:x.length ≤ 4611686018427387904) (hp:∀ s ∈ x,vS EE R w [⟨(.pair (.int .i64) (.pair (.int .i64) (.pair (.int .i64) .unit))),s⟩] = some (p s)):xL R x w = some (BG2 p x 0,()):=by
 have hq:xL R x w = _:=call (mZ R L x w)
 rw [hq]
 refine Aa6 (fun (_:Int) i=>zI R L x w x.length i) x ((0:Int),((0:Int),((0:Int),()))) p (fun a=>?_) (fun a i hlt=>?_) _ 0 0 rfl (Nat.zero_le _)
 ·have hq:zI R L x w x.length (x.length:Nat) = _:=round (by kernel_rfl) (sA R L x w x.length (x.length:Nat))
  show zI R L x w x.length (x.length:Nat) = _
  rw [hq,AG7 (Nat.le_refl _)];rfl
 ·have hq:zI R L x w x.length i = _:=round (by kernel_rfl) (sA R L x w x.length i)
  show zI R L x w x.length i = _
  rw [hq,AE5 hlt,nn,tn,yB hlt,zB (by omega)]
  simp only [cond_true]
  rw [hp _ (tD (d:=((0:Int),((0:Int),((0:Int),())))) hlt)]
  rfl
theorem lC (x:List (List UInt8)) (w:FnVal) (p:List UInt8 → Bool) (hl:x.length ≤ 4611686018427387904) (hp:∀ s ∈ x,vS EE R w [⟨.str,s⟩] = some (p s)):xW R x w = some (BG2 p x 0,()):=by
 have hq:xW R x w = _:=call (lX R L x w)
 have hq0:wT R L x w 0 x.length 0 = _:=round (by kernel_rfl) (lB R L x w 0 x.length 0)
 have hq1:zG R L x w 0 0 x.length 0 = _:=round (by kernel_rfl) (wY R L x w 0 0 x.length 0)
 rw [hq,hq0.trans hq1.symm]
 refine Aa6 (fun a i=>zG R L x w 0 a x.length i) x ([]:List UInt8) p (fun a=>?_) (fun a i hlt=>?_) _ 0 0 rfl (Nat.zero_le _)
 ·have hq:zG R L x w 0 a x.length (x.length:Nat) = _:=round (by kernel_rfl) (wY R L x w 0 a x.length (x.length:Nat))
  show zG R L x w 0 a x.length (x.length:Nat) = _
  rw [hq,AG7 (Nat.le_refl _)];rfl
 ·have hq:zG R L x w 0 a x.length i = _:=round (by kernel_rfl) (wY R L x w 0 a x.length i)
  show zG R L x w 0 a x.length i = _
  rw [hq,AE5 hlt,nn,tn,yB hlt,zB (by omega)]
  simp only [cond_true]
  rw [hp _ (tD (d:=([]:List UInt8)) hlt)]
  rfl
theorem jJ (x:List (A0f)) (w:FnVal) (p:A0f → Bool) (hl:x.length ≤ 4611686018427387904) (hp:∀ s ∈ x,vS EE R w [⟨lP,s⟩] = some (p s)):wV R x w = some (BG2 p x 0,()):=by
 have hq:wV R x w = _:=call (iO R L x w)
 have hq0:uD R L x w 0 x.length 0 = _:=round (by kernel_rfl) (kV R L x w 0 x.length 0)
 have hq1:zK R L x w 0 0 x.length 0 = _:=round (by kernel_rfl) (uU R L x w 0 0 x.length 0)
 rw [hq,hq0.trans hq1.symm]
 refine Aa6 (fun a i=>zK R L x w 0 a x.length i) x ((0:Int),(([]:List UInt8),())) p (fun a=>?_) (fun a i hlt=>?_) _ 0 0 rfl (Nat.zero_le _)
 ·have hq:zK R L x w 0 a x.length (x.length:Nat) = _:=round (by kernel_rfl) (uU R L x w 0 a x.length (x.length:Nat))
  show zK R L x w 0 a x.length (x.length:Nat) = _
  rw [hq,AG7 (Nat.le_refl _)];rfl
 ·have hq:zK R L x w 0 a x.length i = _:=round (by kernel_rfl) (uU R L x w 0 a x.length i)
  show zK R L x w 0 a x.length i = _
  rw [hq,AE5 hlt,nn,tn,yB hlt,zB (by omega)]
  simp only [cond_true]
  rw [hp _ (tD (d:=((0:Int),(([]:List UInt8),()))) hlt)]
  rfl
theorem oY (x:List ((Int × (List (Int) × Unit)))) (w:FnVal) (p:(Int × (List (Int) × Unit)) → Bool) (hl:x.length ≤ 4611686018427387904) (hp:∀ s ∈ x,vS EE R w [⟨(.pair (.int .i64) (.pair (.sl (.int .i64)) .unit)),s⟩] = some (p s)):xD R x w = some (BG2 p x 0,()):=by
 have hq:xD R x w = _:=call (mG R L x w)
 have hq0:xZ R L x w 0 x.length 0 = _:=round (by kernel_rfl) (oV R L x w 0 x.length 0)
 have hq1:zE R L x w 0 0 x.length 0 = _:=round (by kernel_rfl) (wG R L x w 0 0 x.length 0)
 rw [hq,hq0.trans hq1.symm]
 refine Aa6 (fun a i=>zE R L x w 0 a x.length i) x ((0:Int),(([]:List (Int)),())) p (fun a=>?_) (fun a i hlt=>?_) _ 0 0 rfl (Nat.zero_le _)
 ·have hq:zE R L x w 0 a x.length (x.length:Nat) = _:=round (by kernel_rfl) (wG R L x w 0 a x.length (x.length:Nat))
  show zE R L x w 0 a x.length (x.length:Nat) = _
  rw [hq,AG7 (Nat.le_refl _)];rfl
 ·have hq:zE R L x w 0 a x.length i = _:=round (by kernel_rfl) (wG R L x w 0 a x.length i)
  show zE R L x w 0 a x.length i = _
  rw [hq,AE5 hlt,nn,tn,yB hlt,zB (by omega)]
  simp only [cond_true]
  rw [hp _ (tD (d:=((0:Int),(([]:List (Int)),()))) hlt)]
  rfl
theorem kK (x:List (Int)) (w:FnVal) (p:Int → Bool) (hl:x.length ≤ 4611686018427387904) (hp:∀ s ∈ x,vS EE R w [⟨(.int .i64),s⟩] = some (p s)):wK R x w = some (x.any p,()):=by
 have hq:wK R x w = _:=call (jT R L x w)
 rw [hq,iM x w p hl hp]
 simp only [Option.bind_some]
 rw [AJ8]
theorem oQ (x:List ((Int × (Int × (Int × Unit))))) (w:FnVal) (p:(Int × (Int × (Int × Unit))) → Bool) (hl:x.length ≤ 4611686018427387904) (hp:∀ s ∈ x,vS EE R w [⟨(.pair (.int .i64) (.pair (.int .i64) (.pair (.int .i64) .unit))),s⟩] = some (p s)):yY R x w = some (x.any p,()):=by
 have hq:yY R x w = _:=call (nH R L x w)
 rw [hq,mA x w p hl hp]
 simp only [Option.bind_some]
 rw [AJ8]
theorem nI (x:List (List UInt8)) (w:FnVal) (p:List UInt8 → Bool) (hl:x.length ≤ 4611686018427387904) (hp:∀ s ∈ x,vS EE R w [⟨.str,s⟩] = some (p s)):xJ R x w = some (x.any p,()):=by
 have hq:xJ R x w = _:=call (mW R L x w)
 rw [hq,lC x w p hl hp]
 simp only [Option.bind_some]
 rw [AJ8]
theorem lO (x:List (A0f)) (w:FnVal) (p:A0f → Bool) (hl:x.length ≤ 4611686018427387904) (hp:∀ s ∈ x,vS EE R w [⟨lP,s⟩] = some (p s)):wC R x w = some (x.any p,()):=by
 have hq:wC R x w = _:=call (kL R L x w)
 rw [hq,jJ x w p hl hp]
 simp only [Option.bind_some]
 rw [AJ8]
theorem pI (x:List ((Int × (List (Int) × Unit)))) (w:FnVal) (p:(Int × (List (Int) × Unit)) → Bool) (hl:x.length ≤ 4611686018427387904) (hp:∀ s ∈ x,vS EE R w [⟨(.pair (.int .i64) (.pair (.sl (.int .i64)) .unit)),s⟩] = some (p s)):yT R x w = some (x.any p,()):=by
 have hq:yT R x w = _:=call (oN R L x w)
 rw [hq,oY x w p hl hp]
 simp only [Option.bind_some]
 rw [AJ8]
theorem iN (x:List (Int)) (v:FnVal) (p:Int → Bool) (hl:x.length ≤ 4611686018427387904) (hp:∀ s ∈ x,vS EE R v [⟨(.int .i64),s⟩] = some (p s)):uL R x v = some (x.all p,()):=by
 have hq:uL R x v = _:=call (Ar0 R L x v)
 rw [hq,kK x (.mk 268 (.fn v .nil)) (fun s=>!p s) hl (fun s hs=>by
  have h1:iH R s v = _:=call (AZ2 R L s v)
  rw [AX2,h1,hp s hs];rfl)]
 simp only [Option.bind_some]
 rw [Al4]
theorem AI4 (x:List ((Int × (Int × (Int × Unit))))) (v:FnVal) (p:(Int × (Int × (Int × Unit))) → Bool) (hl:x.length ≤ 4611686018427387904) (hp:∀ s ∈ x,vS EE R v [⟨(.pair (.int .i64) (.pair (.int .i64) (.pair (.int .i64) .unit))),s⟩] = some (p s)):oB R x v = some (x.all p,()):=by
 have hq:oB R x v = _:=call (AS4 R L x v)
 rw [hq,oQ x (.mk 334 (.fn v .nil)) (fun s=>!p s) hl (fun s hs=>by
  have h1:mC R s v = _:=call (AG0 R L s v)
  rw [AE3,h1,hp s hs];rfl)]
 simp only [Option.bind_some]
 rw [Al4]
theorem AM3 (x:List (List UInt8)) (v:FnVal) (p:List UInt8 → Bool) (hl:x.length ≤ 4611686018427387904) (hp:∀ s ∈ x,vS EE R v [⟨.str,s⟩] = some (p s)):oZ R x v = some (x.all p,()):=by
 have hq:oZ R x v = _:=call (AW1 R L x v)
 rw [hq,nI x (.mk 254 (.fn v .nil)) (fun s=>!p s) hl (fun s hs=>by
  have h1:lA R s v = _:=call (AM1 R L s v)
  rw [AE8,h1,hp s hs];rfl)]
 simp only [Option.bind_some]
 rw [Al4]
theorem AT5 (x:List (A0f)) (v:FnVal) (p:A0f → Bool) (hl:x.length ≤ 4611686018427387904) (hp:∀ s ∈ x,vS EE R v [⟨lP,s⟩] = some (p s)):lR R x v = some (x.all p,()):=by
 have hq:lR R x v = _:=call (Ah0 R L x v)
 rw [hq,lO x (.mk 331 (.fn v .nil)) (fun s=>!p s) hl (fun s hs=>by
  have h1:jO R s v = _:=call (AW6 R L s v)
  rw [AQ7,h1,hp s hs];rfl)]
 simp only [Option.bind_some]
 rw [Al4]
theorem AE0 (x:List ((Int × (List (Int) × Unit)))) (v:FnVal) (p:(Int × (List (Int) × Unit)) → Bool) (hl:x.length ≤ 4611686018427387904) (hp:∀ s ∈ x,vS EE R v [⟨(.pair (.int .i64) (.pair (.sl (.int .i64)) .unit)),s⟩] = some (p s)):qS R x v = some (x.all p,()):=by
 have hq:qS R x v = _:=call (AM2 R L x v)
 rw [hq,pI x (.mk 299 (.fn v .nil)) (fun s=>!p s) hl (fun s hs=>by
  have h1:oX R s v = _:=call (AD4 R L s v)
  rw [AA8,h1,hp s hs];rfl)]
 simp only [Option.bind_some]
 rw [Al4]
abbrev A7Y:Type:=(List ((Int × (Int × (Int × Unit)))) × Unit)
abbrev A5R:Type:=(Int × (List (Int) × Unit))
end Go.Rf.S

end
section
namespace Go.Rf.S
set_option maxRecDepth 100000
def inB (n a b:Int):Bool:=decide (a ≤ n) && decide (n ≤ b)
theorem rJ {n a b:Int} (h:inB n a b = true):a ≤ n ∧ n ≤ b:=by
 unfold inB at h
 simpa using h
theorem pC (n a b:Int):tG R n a b = some (inB n a b,()):=by
 have hq:tG R n a b = _:=call (A9I R L n a b)
 rw [hq]
 unfold inB
 cases decide (a ≤ n) <;> rfl
theorem rW (n a b:Int):sL R n a b = some (inB n a b,()):=by
 have hq:sL R n a b = _:=call (A6m R L n a b)
 rw [hq]
 unfold inB
 cases decide (a ≤ n) <;> rfl
theorem A9p (n:Int):AT4 R n = some (inB n 0 39,()):=by
 have hq:AT4 R n = _:=call (A8F R L n)
 rw [hq,pC];rfl
theorem A11 (n:Int):cG R n = some (inB n 0 39,()):=by
 have hq:cG R n = _:=call (A2P R L n)
 rw [hq,rW];rfl
theorem A8g (n:Int):Al0 R n = some (inB n 1 9999,()):=by
 have hq:Al0 R n = _:=call (A8z R L n)
 rw [hq,rW];rfl
theorem Ap4 (n:Int):dE R n = some (inB n 0 999999,()):=by
 have hq:dE R n = _:=call (A4K R L n)
 rw [hq,rW];rfl
def A2R (t:List UInt8):Bool:=decide (t.length = 32)
theorem A1N (t:List UInt8):eqI (t.length:Int) 32 = A2R t:=by
 unfold A2R
 rw [vK]
 by_cases h:t.length = 32
 ·rw [decide_eq_true h,decide_eq_true (by omega)]
 ·rw [decide_eq_false h,decide_eq_false (by omega)]
theorem AF0 (t:List UInt8):kC R t = some (A2R t,()):=by
 have hq:kC R t = _:=call (A3W R L t)
 rw [hq,A1N]
theorem A1H (a b:Int):Ax5 a b = min a b:=by
 unfold Ax5
 by_cases h:b < a
 ·rw [decide_eq_true h];simp only [cond_true];omega
 ·rw [decide_eq_false h];simp only [cond_false];omega
def Ba8 (x:A0f):Bool:=inB x.1 0 39 && decide (x.2.1.length ≤ 700)
def BO5 (s:List UInt8):Bool:=decide (s.length ≤ 700)
def As1 (d:oG):Bool:=decide (d.1.length = 40) && (decide (d.2.1.length ≤ 60) && (d.1.all BO5 && d.2.1.all Ba8))
theorem gtN (n m:Nat):decide ((m:Int) < (n:Int)) = !decide (n ≤ m):=by
 by_cases h:n ≤ m
 ·rw [decide_eq_false (by omega),decide_eq_true h];rfl
 ·rw [decide_eq_true (by omega),decide_eq_false h];rfl
theorem leN (n m:Nat):decide ((n:Int) ≤ (m:Int)) = decide (n ≤ m):=decide_eq_decide.2 (by omega)
theorem Bh8:∀ (n:Nat) (v0 v1:oG) (v2:Bool) (v3:Int) (i:Nat),v1.2.1.length - i = n → i ≤ v1.2.1.length → v1.2.1.length ≤ 60 → pG R L v0 v1 v2 v3 i = some ((v1.2.1.drop i).all Ba8,())
 | 0,v0,v1,v2,v3,i,hn,hi,hl=>by
  have hq:pG R L v0 v1 v2 v3 i = _:=round (by kernel_rfl) (AN0 R L v0 v1 v2 v3 i)
  rw [hq,AG7 (by omega),List.drop_eq_nil_of_le (by omega)];rfl
 | n + 1,v0,v1,v2,v3,i,hn,hi,hl=>by
  have hlt:i < v1.2.1.length:=by omega
  have hq:pG R L v0 v1 v2 v3 i = _:=round (by kernel_rfl) (AN0 R L v0 v1 v2 v3 i)
  rw [hq,AE5 hlt,nn,tn,yB hlt]
  simp only [cond_true]
  rw [A9p]
  simp only [Option.bind_some]
  rw [show (700:Int) = ((700:Nat):Int) from rfl,gtN,zB (by omega),Bh8 n v0 v1 v2 v3 (i + 1) (by omega) (by omega) hl,xY (d:=(0,([],()))) hlt,List.all_cons]
  generalize v1.2.1.getD i (0,([],())) = p
  unfold Ba8
  cases inB p.1 0 39 <;> cases decide (p.2.1.length ≤ 700) <;> rfl
theorem Bk6:∀ (n:Nat) (v0 v1:oG) (v2:Bool) (i:Nat),v1.1.length - i = n → i ≤ v1.1.length → v1.1.length ≤ 40 → v1.2.1.length ≤ 60 → pH R L v0 v1 v2 i = some ((v1.1.drop i).all BO5 && v1.2.1.all Ba8,())
 | 0,v0,v1,v2,i,hn,hi,hl,hl2=>by
  have hq:pH R L v0 v1 v2 i = _:=round (by kernel_rfl) (AN8 R L v0 v1 v2 i)
  rw [hq,AG7 (by omega),List.drop_eq_nil_of_le (by omega)]
  exact Bh8 _ v0 v1 v2 i 0 rfl (by omega) hl2
 | n + 1,v0,v1,v2,i,hn,hi,hl,hl2=>by
  have hlt:i < v1.1.length:=by omega
  have hq:pH R L v0 v1 v2 i = _:=round (by kernel_rfl) (AN8 R L v0 v1 v2 i)
  rw [hq,AE5 hlt,nn,tn,yB hlt]
  simp only [cond_true]
  rw [show (700:Int) = ((700:Nat):Int) from rfl,gtN,zB (by omega),Bk6 n v0 v1 v2 (i + 1) (by omega) (by omega) hl hl2,xY (d:=[]) hlt,List.all_cons]
  generalize v1.1.getD i [] = p
  unfold BO5
  cases decide (p.length ≤ 700) <;> rfl
theorem A13 (d:oG):dZ R d = some (As1 d,()):=by
 have hq:dZ R d = _:=call (A2n R L d)
 rw [hq,vK]
 unfold As1
 by_cases h:d.1.length = 40
 ·rw [show decide ((d.1.length:Int) = 40) = true from decide_eq_true (by omega),decide_eq_true h]
  by_cases h2:d.2.1.length ≤ 60
  ·rw [show decide ((60:Int) < (d.2.1.length:Int)) = false from decide_eq_false (by omega),decide_eq_true h2]
   exact Bk6 _ d d false 0 rfl (by omega) (by omega) h2
  ·rw [show decide ((60:Int) < (d.2.1.length:Int)) = true from decide_eq_true (by omega),decide_eq_false h2];rfl
 ·rw [show decide ((d.1.length:Int) = 40) = false from decide_eq_false (by omega),decide_eq_false h];rfl
theorem AX5 (s:List UInt8):kM R s = some (BO5 s,()):=by
 have hq:kM R s = _:=call (A0h R L s)
 rw [hq,show (700:Int) = ((700:Nat):Int) from rfl,leN];rfl
theorem Au3 (s:A0f):hM R s = some (Ba8 s,()):=by
 have hq:hM R s = _:=call (As2 R L s)
 rw [hq,A11]
 simp only [Option.bind_some]
 rw [AX5]
 unfold Ba8 BO5
 cases inB s.1 0 39 <;> rfl
theorem A2c (d:oG):dV R d = some (As1 d,()):=by
 have hq:dV R d = _:=call (A3I R L d)
 rw [hq,vK]
 unfold As1
 by_cases h:d.1.length = 40
 ·rw [show decide ((d.1.length:Int) = 40) = true from decide_eq_true (by omega),decide_eq_true h]
  simp only [cond_true]
  rw [AM3 d.1 _ BO5 (by omega) (fun s _=>by rw [As3,AX5];rfl)]
  simp only [Option.bind_some]
  by_cases h2:d.2.1.length ≤ 60
  ·rw [show decide ((d.2.1.length:Int) ≤ (60:Int)) = true from decide_eq_true (by omega),decide_eq_true h2]
   simp only [cond_true]
   rw [AT5 d.2.1 _ Ba8 (by omega) (fun s _=>by rw [Am9,Au3];rfl)]
   cases d.1.all BO5 <;> simp
  ·rw [show decide ((d.2.1.length:Int) ≤ (60:Int)) = false from decide_eq_false (by omega),decide_eq_false h2]
   cases d.1.all BO5 <;> simp
 ·rw [show decide ((d.1.length:Int) = 40) = false from decide_eq_false (by omega),decide_eq_false h];rfl
def A2l (x:iE):Bool:=inB x.1 0 1000000 && (inB x.2.1 0 1 && (inB x.2.2.2.1 0 1000000 && (inB x.2.2.1 x.1 (min (x.1 + 4) 1000000) && (A2R x.2.2.2.2.1 && (A2R x.2.2.2.2.2.1 && (A2R x.2.2.2.2.2.2.1 && (decide (x.1 < x.2.2.1) || decide (x.2.2.2.2.1 = x.2.2.2.2.2.1))))))))
theorem Au1 (x:iE):iX R x = some (A2l x,()):=by
 have hq:iX R x = _:=call (Au2 R L x)
 rw [hq,pC]
 unfold A2l
 simp only [Option.bind_some]
 cases h0:inB x.1 0 1000000 with
 | false=>rfl
 | true=>
  have hb:=rJ h0
  simp only [cond_true,Bool.true_and]
  rw [pC]
  simp only [Option.bind_some]
  cases inB x.2.1 0 1 with
  | false=>rfl
  | true=>
   simp only [cond_true,Bool.true_and]
   rw [pC]
   simp only [Option.bind_some]
   cases inB x.2.2.2.1 0 1000000 with
   | false=>rfl
   | true=>
    simp only [cond_true,Bool.true_and]
    rw [pC,A1H,zH (by omega) (by omega)]
    simp only [Option.bind_some,A1N,gV]
    cases inB x.2.2.1 x.1 (min (x.1 + 4) 1000000) <;> cases A2R x.2.2.2.2.1 <;> cases A2R x.2.2.2.2.2.1 <;> cases A2R x.2.2.2.2.2.2.1 <;> cases decide (x.1 < x.2.2.1) <;> rfl
theorem At5 (x:iE):iS R x = some (A2l x,()):=by
 have hq:iS R x = _:=call (Ar9 R L x)
 have hq2:lE R x = _:=call (AM0 R L x)
 rw [hq,rW]
 unfold A2l
 simp only [Option.bind_some]
 cases h0:inB x.1 0 1000000 with
 | false=>rfl
 | true=>
  have hb:=rJ h0
  simp only [cond_true,Bool.true_and]
  rw [rW]
  simp only [Option.bind_some]
  cases inB x.2.1 0 1 with
  | false=>rfl
  | true=>
   simp only [cond_true,Bool.true_and]
   rw [rW,A1H,zH (by omega) (by omega)]
   simp only [Option.bind_some]
   cases h2:inB x.2.2.1 x.1 (min (x.1 + 4) 1000000) with
   | false=>cases inB x.2.2.2.1 0 1000000 <;> rfl
   | true=>
    have hc:=rJ h2
    simp only [cond_true,Bool.true_and]
    rw [rW,AF0,AF0,AF0,hq2,zH (by omega) (by omega)]
    simp only [Option.bind_some,gV]
    rw [show decide ((0:Int) < x.2.2.1 - x.1) = decide (x.1 < x.2.2.1) from decide_eq_decide.2 (by omega)]
    cases inB x.2.2.2.1 0 1000000 <;> cases A2R x.2.2.2.2.1 <;> cases A2R x.2.2.2.2.2.1 <;> cases A2R x.2.2.2.2.2.2.1 <;> cases decide (x.1 < x.2.2.1) <;> rfl
def A4C (d:oG):Bool:=decide (d.2.1.length = 0)
theorem A6M (d:oG):eqI (d.2.1.length:Int) 0 = A4C d:=by
 unfold A4C
 rw [vK]
 exact decide_eq_decide.2 (by omega)
def gX (x:yD):Bool:=A2R x.1 && (A2l x.2.1 && (As1 x.2.2.1 && (A4C x.2.2.1 && !(x.2.2.2.1 && x.2.2.2.2.1))))
theorem A4V (x:yD):AB1 R x = some (gX x,()):=by
 have hq:AB1 R x = _:=call (A4N R L x)
 rw [hq,Au1,A13]
 simp only [Option.bind_some,A1N,A6M]
 unfold gX
 cases A2R x.1 <;> cases A2l x.2.1 <;> cases As1 x.2.2.1 <;> cases A4C x.2.2.1 <;> cases x.2.2.2.1 <;> rfl
theorem A6g (d:oG):AI9 R d = some (As1 d && A4C d,()):=by
 have hq:AI9 R d = _:=call (A7x R L d)
 rw [hq,A2c,A6M]
 simp only [Option.bind_some]
 cases As1 d <;> rfl
theorem A5P (x:yD):aZ R x = some (gX x,()):=by
 have hq:aZ R x = _:=call (A3z R L x)
 rw [hq,At5,A6g]
 simp only [Option.bind_some,A1N]
 unfold gX
 cases A2R x.1 <;> cases A2l x.2.1 <;> cases As1 x.2.2.1 <;> cases A4C x.2.2.1 <;> cases x.2.2.2.1 <;> rfl
theorem bM {i:Nat} (h:i + 1 < 9223372036854775807):IntKind.wrap .i64 (((i + 1:Nat):Int) - 1) = (i:Int):=by
 rw [zH (by omega) (by omega)];omega
def A0s (r:A5R):Bool:=inB r.1 0 19 && (decide (r.2.1.length ≤ 32) && ((decide (r.1 = 0) || decide (r.2.1.length = 0)) && r.2.1.all fun n=>inB n 0 999999))
def AC6 (l:List A5R):Bool:=decide (l.length ≤ 2) && l.all A0s
theorem A0U {α:Type} (F:Int → Option (Bool × Unit)) (v:List α) (d:α) (p:α → Bool) (z:Bool)
  (stop:F (v.length:Nat) = some (z,()))
  (step:∀ (i:Nat),i < v.length → F i = cond (p (v.getD i d)) (F ((i + 1:Nat):Int)) (some (false,()))):
  ∀ (n i:Nat),v.length - i = n → i ≤ v.length → F i = some ((v.drop i).all p && z,())
 | 0,i,hn,hi=>by
  have:i = v.length:=by omega
  subst this
  rw [stop,List.drop_eq_nil_of_le (Nat.le_refl _)];rfl
 | n + 1,i,hn,hi=>by
  rw [step i (by omega),xY (d:=d) (by omega),List.all_cons,A0U F v d p z stop step n (i + 1) (by omega) (by omega)]
  cases p (v.getD i d) <;> rfl
theorem Bt3 (n:Nat):eqI (n:Int) 0 = decide (n = 0):=by
 rw [vK];exact decide_eq_decide.2 (by omega)
end Go.Rf.S

end
section
namespace Go.Rf.S
set_option maxRecDepth 100000
def NN (l:List Int):Prop:=∀ x ∈ l,0 ≤ x
theorem NN.cl {l:List Int} (h:NN l):∃ m:List Nat,l = cl m:=⟨l.map Int.toNat,by
 unfold Go.Rf.cl
 rw [List.map_map]
 have:∀ x ∈ l,((fun x:Nat=>(x:Int)) ∘ Int.toNat) x = id x:=fun x hx=>Int.toNat_of_nonneg (h x hx)
 rw [List.map_congr_left this,List.map_id]⟩
theorem NN.rep (n:Nat):NN (List.replicate n (0:Int)):=fun x hx=>by rw [(List.mem_replicate.1 hx).2];decide
def fil (l:List Int) (n:Nat):List Int:=l ++ List.replicate (n - l.length) 0
abbrev DB:Type:=Int × (Int × (Int × Unit))
abbrev DR:Type:=Int × (List Int × Unit)
abbrev DE:Type:=List Int × ((List Int × (List DB × (List (List DB) × Unit))) × Unit)
def b3 (b:DB):List Int:=[b.1,b.2.1,b.2.2.1]
def Bt7 (l:List DB):List Int:=(l.length:Int) :: l.flatMap b3
def Bv1 (r:DR):List Int:=[r.1,(r.2.1.length:Int)] ++ r.2.1
def Bv9 (l:List DB):List UInt8:=(fil (Bt7 l) 7).flatMap itx
def stI (e:DE) (rs:List DR):List Int:=(((e.2.1.1 ++ Bt7 e.2.1.2.1) ++ e.1) ++ [(rs.length:Int)]) ++ rs.flatMap Bv1
def Bu5 (e:DE) (rs:List DR):List UInt8:=(fil (stI e rs) 140).flatMap itx
end Go.Rf.S

end
section
namespace Go.Rf.S
set_option maxRecDepth 100000
noncomputable def Bo7 (key:List UInt8) (side epoch i:Nat) (l:List DB):List UInt8:=BX8 key 2 (16 * side + 1 + i) epoch (Bv9 l)
noncomputable def Bo8 (key:List UInt8) (side epoch:Nat) (e:DE) (rs:List DR):List (List UInt8):=[BX8 key 1 (16 * side) epoch (Bu5 e rs)] ++ e.2.1.2.2.1.mapIdx (Bo7 key side epoch)
end Go.Rf.S

end
section
namespace Go.Rf.S
set_option maxRecDepth 100000
def A1g (n:Int):Bool:=inB n 0 7
theorem BP3 (n:Int):kH R n = some (A1g n,()):=by
 rw [show kH R n = _ from call (Av4 R L n),rW];rfl
theorem A7k (l:List Int) (hl:l.length ≤ 4096):uL R l (.mk A7g .nil) = some (l.all A1g,()):=
 iN l _ A1g (by omega) fun s _=>by rw [A3s,BP3];rfl
theorem BK4 (l:List Int) (hl:l.length ≤ 4096):fI R l = some (l.all A1g,()):=by
 have h:∀ (n i:Nat),l.length - i = n → i ≤ l.length → qA R L l (i:Int) = some ((l.drop i).all A1g,()):=by
  intro n
  induction n with
  | zero=>
   intro i hn hi
   have:i = l.length:=by omega
   subst this
   rw [show qA R L l (l.length:Nat) = _ from round (by kernel_rfl) (AH5 R L l (l.length:Nat)),List.drop_length]
   simp (disch:=omega) only [st,dF,List.all_nil]
  | succ n ih=>
   intro i hn hi
   rw [show qA R L l (i:Nat) = _ from round (by kernel_rfl) (AH5 R L l (i:Nat)),zB (by omega),ih (i + 1) (by omega) (by omega),xY (d:=0) (show i < l.length by omega),List.all_cons]
   simp (disch:=omega) only [st,dT,pC]
   unfold A1g
   cases inB (l.getD i 0) 0 7 <;> rfl
 rw [show fI R l = _ from call (A0I R L l)]
 exact h l.length 0 rfl (Nat.zero_le _)
def Bw3 (l:List Int):DE:=(List.replicate 11 0,((l,([],(List.replicate 15 [],()))),()))
end Go.Rf.S

end
section
namespace Go.Rf.S
set_option maxRecDepth 100000
abbrev DI:Type:=Int × (List UInt8 × Unit)
abbrev DD:Type:=List (List UInt8) × (List DI × Unit)
theorem BV3 (l:List (List UInt8)) (h:l.length ≤ 1099511627776):wW R l = some (l,()):=by
 rw [show wW R l = _ from call (jY R L l)]
 cases l with
 | nil=>exact AK2 _
 | cons a l=>show cond (yP (0 + (a :: l).length)) (some (a :: l,())) none = _;rw [vR (by omega)];rfl
theorem BW5 (l:List DI) (h:l.length ≤ 1099511627776):uQ R l = some (l,()):=by
 rw [show uQ R l = _ from call (eR R L l)]
 cases l with
 | nil=>exact AK2 _
 | cons a l=>show cond (yP (0 + (a :: l).length)) (some (a :: l,())) none = _;rw [vR (by omega)];rfl
theorem BB6 (d:DD) (h1:d.1.length ≤ 1048576) (h2:d.2.1.length ≤ 1048576):gB R d = some (d,()) ∧ AL4 R d = some (d,()):=by
 constructor
 ·rw [show gB R d = _ from call (Au8 R L d),BV3 _ (by omega),BW5 _ (by omega)];rfl
 ·rw [show AL4 R d = _ from call (A7l R L d)]
  simp (disch:=omega) only [st,List.length_nil];rfl
def Bv4 (n:Nat) (u:List DI):Prop:=∀ x ∈ u,0 ≤ x.1 ∧ x.1.toNat < n
end Go.Rf.S

end
section
namespace Go.Rf.S
set_option maxRecDepth 100000
def Bw0 (t:A7Y):List Int:=(t.1.length:Int) :: t.1.flatMap b3
def Bw1 (l:List A7Y) (ds:List Int):List Int:=(ds ++ [(l.length:Int)]) ++ l.flatMap Bw0
def Bu1 (l:List A7Y) (ds:List Int):List UInt8:=(fil (Bw1 l ds) 68).flatMap itx
def Ak9 (a b:List UInt8):List UInt8:=dig (([2] ++ a) ++ b)
theorem BC9 {a b:List UInt8} (ha:a.length ≤ 1048576) (hb:b.length ≤ 1048576):AU1 R a b = some (Ak9 a b,()) ∧ cA R a b = some (Ak9 a b,()):=by
 have hl:(([2] ++ a) ++ b).length ≤ 549755813888:=by simp only [List.length_append,List.length_cons,List.length_nil];omega
 constructor
 ·rw [show AU1 R a b = _ from call (A8k R L a b),A0Q _ hl]
  simp (disch:=omega) only [st];rfl
 ·rw [show cA R a b = _ from call (A2V R L a b),A39 _ hl]
  simp (disch:=omega) only [st];rfl
structure DW (d:DD):Prop where
 l1:d.1.length ≤ 1048576
 l2:d.2.1.length ≤ 1048576
 at_:Bv4 d.1.length d.2.1
 sh:Sh d.1
 un:∀ x ∈ d.2.1,x.2.1.length ≤ 1048576
end Go.Rf.S

end
section
namespace Go.Rf.S
set_option maxRecDepth 100000
def wd:Ty → Nat
 | .sl t=>wd t
 | .pair a b=>wd a + wd b
 | _=>1
theorem AX7:∀ (c:Bool) (t:Ty) (x:t.D),nmk c t x ≤ wd t * (cnt t x + 1)
 | c,.sl t,x=>by
  have h:∀ l:List t.D,(l.map (nmk true t)).sum ≤ wd t * (l.length + (l.map (cnt t)).sum):=fun l=>by
   induction l with
   | nil=>simp
   | cons a l ih=>
    have:=AX7 true t a
    simp only [List.map_cons,List.sum_cons,List.length_cons]
    have e:wd t * (l.length + 1 + (cnt t a + (l.map (cnt t)).sum)) = wd t * (cnt t a + 1) + wd t * (l.length + (l.map (cnt t)).sum):=by rw [← Nat.mul_add];congr 1;omega
    omega
  have e:nmk c (.sl t) x = (List.map (nmk true t) x).sum:=by cases c <;> rfl
  have e2:cnt (.sl t) x = List.length x + (List.map (cnt t) x).sum:=rfl
  rw [e,e2]
  have:=h x
  show _ ≤ wd t * _
  rw [Nat.mul_add];omega
 | c,.pair a b,x=>by
  have h1:=AX7 c a x.1
  have h2:=AX7 c b x.2
  have e:nmk c (.pair a b) x = nmk c a x.1 + nmk c b x.2:=by cases c <;> rfl
  have e2:cnt (.pair a b) x = cnt a x.1 + cnt b x.2:=rfl
  rw [e,e2]
  show _ ≤ (wd a + wd b) * _
  have e3:(wd a + wd b) * (cnt a x.1 + cnt b x.2 + 1) = wd a * (cnt a x.1 + 1) + wd a * cnt b x.2 + (wd b * (cnt b x.2 + 1) + wd b * cnt a x.1):=by
   simp only [Nat.add_mul,Nat.mul_add,Nat.mul_one];omega
  omega
 | c,.int _,x=>by cases c <;> simp [nmk,wd,cnt]
 | c,.bool,x=>by cases c <;> simp [nmk,wd,cnt]
 | c,.str,x=>by cases c <;> simp [nmk,wd,cnt]
 | c,.fn,x=>by cases c <;> simp [nmk,wd,cnt]
 | c,.unit,x=>by cases c <;> simp [nmk,wd,cnt]
 | c,.ptr _,x=>by cases c <;> simp [nmk,wd,cnt]
 | c,.arr _ _,x=>by cases c <;> simp [nmk,wd,cnt]
abbrev noS:yD:=([],((0,(0,(0,(0,([],([],([],()))))))),(([],([],())),(false,(false,())))))
def Br8:List UInt8:=[98,101,103,105,110]
noncomputable def Bt5 (key:List UInt8) (l:List Int):List (List UInt8):=Bo8 key 0 0 (Bw3 l) []
noncomputable def newS (key:List UInt8) (l:List Int):yD:=(key,((0,(0,(0,(0,(dig Br8,(dig Br8,(A3n (Bt5 key l),()))))))),((Bt5 key l ++ List.replicate 24 [],([],())),(true,(false,())))))
end Go.Rf.S

end
section
namespace Go.Rf.S
set_option maxRecDepth 100000
end Go.Rf.S

end
section
namespace Go.Rf.S
set_option maxRecDepth 100000
structure SO (x:yD):Prop where
 k:x.1.length = 32
 c0:0 ≤ x.2.1.1
 c1:x.2.1.1 ≤ 1000000
 sd:x.2.1.2.1 = 0 ∨ x.2.1.2.1 = 1
 n0:x.2.1.1 ≤ x.2.1.2.2.1
 n1:x.2.1.2.2.1 ≤ x.2.1.1 + 4
 n2:x.2.1.2.2.1 ≤ 1000000
 b0:0 ≤ x.2.1.2.2.2.1
 b1:x.2.1.2.2.2.1 ≤ 1000000
 t1:x.2.1.2.2.2.2.1.length = 32
 t2:x.2.1.2.2.2.2.2.1.length = 32
 t3:x.2.1.2.2.2.2.2.2.1.length = 32
 dl:x.2.2.1.1.length = 40
 ds:∀ s ∈ x.2.2.1.1,s.length ≤ 700
 u:x.2.2.1.2.1 = []
theorem A5g {s:List UInt8} (h:A2R s = true):s.length = 32:=by simpa [A2R] using h
theorem SO.of {x:yD} (h:gX x = true):SO x:=by
 unfold gX A2l As1 A4C at h
 simp only [Bool.and_eq_true,decide_eq_true_eq] at h
 obtain ⟨h1,⟨r1,r2,r3,r4,r5,r6,r7,r8⟩,⟨d1,d2,d3,d4⟩,h4,h5⟩:=h
 have a1:=rJ r1
 have a2:=rJ r2
 have a3:=rJ r3
 have a4:=rJ r4
 exact ⟨A5g h1,a1.1,a1.2,by omega,a4.1,by omega,by omega,a3.1,a3.2,A5g r5,A5g r6,A5g r7,d1,fun s hs=>by simpa [BO5] using List.all_eq_true.1 d3 s hs,List.length_eq_zero_iff.1 h4⟩
theorem SO.dw {x:yD} (h:SO x):DW x.2.2.1:=
 ⟨by rw [h.dl];decide,by rw [h.u];decide,by rw [h.u];exact (fun _ h=>nomatch h),fun s hs=>Nat.le_trans (h.ds s hs) (by decide),by rw [h.u];exact (fun _ h=>nomatch h)⟩
theorem Bk7 {x:yD} (h:SO x):qI R x = some (x,()):=by
 rw [show qI R x = _ from call (A1G R L x),(BB6 x.2.2.1 h.dw.l1 h.dw.l2).1];rfl
theorem Bp4 {x:yD} (h:DW x.2.2.1):AJ1 R x = some (x,()):=by
 rw [show AJ1 R x = _ from call (A7P R L x),(BB6 x.2.2.1 h.l1 h.l2).2];rfl
noncomputable def Bu6 (key:List UInt8) (C B:Nat) (l:List A7Y) (ds:List Int):List UInt8:=ub (lit B 4) ++ BX8 key 3 (32 + (C + 1) % 8) (C + 1 + 1048576 * B) (Bu1 l ds)
noncomputable def nT (x:yD) (l:List A7Y) (ds:List Int):List UInt8:=Bu6 x.1 x.2.1.2.2.1.toNat x.2.1.2.2.2.1.toNat l ds
def nA (x:yD):Nat:=32 + (x.2.1.2.2.1.toNat + 1) % 8
noncomputable def nS (x:yD) (l:List A7Y) (ds:List Int):List (List UInt8):=x.2.2.1.1.set (nA x) (nT x l ds)
end Go.Rf.S

end
section
namespace Go.Rf.S
set_option maxRecDepth 100000
theorem Bt0 (x:yD) (k:Nat) (hx:cnt tC x ≤ 1048576) (hk:k ≤ 100000000):∃ (k':Nat) (x':yD),k' ≤ k + 18000000 ∧ qD R x k = some ((k':Int),(x',())) ∧ oC R x' k = some ((k':Int),()):=by
 have n1:=AX7 false tC x
 have w:wd tC = 17:=rfl
 rw [w] at n1
 have l1:=Ah8 tC x
 have s1:=AM9 mt false tC x k
 exact ⟨_,_,by omega,A7f x k (by omega) (by omega),A6r (mk_ mt false tC x k).1 k _ (Nat.le_trans (Nat.le_of_eq (Ak5 mt false tC x k)) (by omega)) (by omega) (A8C mt false tC x k)⟩
end Go.Rf.S

end
section
namespace Go.Rf.S
set_option maxRecDepth 100000
def BB7 (t:List UInt8):Nat → Nat → List Int
 | 0,_=>[]
 | c + 1,k=>((wLE t (4 * k):Nat):Int) :: BB7 t c (k + 1)
theorem A2z (t:List UInt8):∀ c k,(BB7 t c k).length = c
 | 0,_=>rfl
 | c + 1,k=>by show (_ :: _:List Int).length = _;rw [List.length_cons,A2z t c]
def wds (t:List UInt8):List Int:=BB7 t (t.length / 4) 0
theorem A9Q (t:List UInt8):(wds t).length = t.length / 4:=A2z t _ _
theorem BS1 (t:List UInt8) (n:Nat) (ht:t.length = 4 * n) (hn:n ≤ 262144):∀ (c k:Nat) (acc:List Int),k + c = n → acc.length = k → qU R L t acc ((4 * k:Nat):Int) = some (acc ++ BB7 t c k,())
 | 0,k,acc,hk,ha=>by
  rw [show qU R L t acc ((4 * k:Nat):Int) = _ from round (by kernel_rfl) (AO5 R L t acc ((4 * k:Nat):Int)),AG7 (by omega)]
  show some (acc,()) = some (acc ++ [],());rw [List.append_nil]
 | c + 1,k,acc,hk,ha=>by
  have hb:=BT7 t (4 * k)
  have e:=Ag3 (t.drop (4 * k)) (by rw [List.length_drop];omega)
  rw [A6c] at e
  rw [show qU R L t acc ((4 * k:Nat):Int) = _ from round (by kernel_rfl) (AO5 R L t acc ((4 * k:Nat):Int)),AE5 (by omega),List.take_length,show IntKind.wrap .i64 (((4 * k:Nat):Int) + 4) = ((4 * (k + 1):Nat):Int) by rw [zH (by omega) (by omega)];omega]
  simp (disch:=omega) only [st,e]
  rw [BS1 t n ht hn c (k + 1) _ (by omega) (by rw [List.length_append,ha];rfl),List.append_assoc]
  rfl
theorem A8M (t:List UInt8) (ht:t.length ≤ 1048576):∀ (c k:Nat) (acc:List Int),k + c = t.length / 4 → acc.length = k → rZ R L t acc ((4 * k:Nat):Int) = some (acc ++ BB7 t c k,(decide (t.length % 4 = 0),()))
 | 0,k,acc,hk,ha=>by
  rw [show rZ R L t acc ((4 * k:Nat):Int) = _ from round (by kernel_rfl) (AG9 R L t acc ((4 * k:Nat):Int)),show IntKind.wrap .i64 (((4 * k:Nat):Int) + 4) = ((4 * (k + 1):Nat):Int) by rw [zH (by omega) (by omega)];omega,
   dF (show ¬ ((4 * (k + 1):Nat):Int) ≤ (t.length:Int) by omega),show Int.tmod (t.length:Int) 4 = ((t.length % 4:Nat):Int) from rfl,Bt3]
  show some (acc,_) = some (acc ++ [],_);rw [List.append_nil]
 | c + 1,k,acc,hk,ha=>by
  have e:=A0q t (4 * k) (by omega) (by omega)
  rw [show rZ R L t acc ((4 * k:Nat):Int) = _ from round (by kernel_rfl) (AG9 R L t acc ((4 * k:Nat):Int)),show IntKind.wrap .i64 (((4 * k:Nat):Int) + 4) = ((4 * (k + 1):Nat):Int) by rw [zH (by omega) (by omega)];omega,
   dT (show ((4 * (k + 1):Nat):Int) ≤ (t.length:Int) by omega)]
  simp (disch:=omega) only [st,e]
  rw [A8M t ht c (k + 1) _ (by omega) (by rw [List.length_append,ha];rfl),List.append_assoc]
  rfl
abbrev PR:Type:=List Int × (Int × (Bool × Unit))
abbrev SR:Type:=List Int × (Int × Unit)
def RP (x:PR) (o:LO):Prop:=x.1.length ≤ 1048576 ∧ ((o = none ∧ x.2.2.1 = true) ∨ (x.2.2.1 = false ∧ ∃ k:Nat,x.2.1 = (k:Int) ∧ k ≤ x.1.length ∧ o = some (x.1.drop k)))
def RS (x:SR) (s:SO1):Prop:=x.1.length ≤ 1048576 ∧ ((s.2 = false ∧ ∃ k:Nat,x.2.1 = (k:Int) ∧ k ≤ x.1.length ∧ s.1 = x.1.drop k) ∨ (s.2 = true ∧ s.1 = [] ∧ x.2.1 = (x.1.length:Int) + 1))
def po (t:List UInt8) (n:Nat):LO:=if t.length = 4 * n then some (wds t) else none
def so (t:List UInt8) (n:Nat):SO1:=if t.length = 4 * n then (wds t,false) else ([],true)
theorem pso (t:List UInt8) (n:Nat):Sy (po t n) (so t n) ∨ (po t n = none ∧ (so t n).2 = true):=by
 unfold po so
 by_cases h:t.length = 4 * n
 ·rw [if_pos h,if_pos h];exact .inl ⟨rfl,rfl⟩
 ·rw [if_neg h,if_neg h];exact .inr ⟨rfl,rfl⟩
theorem A5f (t:List UInt8) (n:Nat) (hn:n ≤ 1000):∃ x,RP x (po t n) ∧ mB R t (n:Int) = some (x,()):=by
 rw [show mB R t (n:Int) = _ from call (A2v R L t (n:Int)),show IntKind.wrap .i64 (4 * (n:Int)) = ((4 * n:Nat):Int) by rw [zH (by omega) (by omega)];omega]
 unfold po
 by_cases h:t.length = 4 * n
 ·have e:dQ R t = some (wds t,()):=by
   have:=BS1 t n h (by omega) n 0 [] (by omega) rfl
   rw [show dQ R t = _ from call (A1j R L t)]
   unfold wds
   rw [show t.length / 4 = n by omega]
   exact this
  rw [if_pos h]
  simp (disch:=omega) only [st,e,Bool.not_true]
  refine ⟨_,⟨?_,.inr ⟨rfl,0,rfl,Nat.zero_le _,rfl⟩⟩,rfl⟩
  show (wds t).length ≤ _
  rw [A9Q];omega
 ·rw [if_neg h]
  simp (disch:=omega) only [st,Bool.not_false]
  exact ⟨_,⟨Nat.zero_le _,.inl ⟨rfl,rfl⟩⟩,rfl⟩
theorem A5x (t:List UInt8) (n:Nat) (hn:n ≤ 1000) (ht:t.length ≤ 1048576):∃ x,RS x (so t n) ∧ lS R t (n:Int) = some (x,()):=by
 have e:fX R t = some (wds t,(decide (t.length % 4 = 0),())):=by
  have:=A8M t ht (t.length / 4) 0 [] (by omega) rfl
  rw [show fX R t = _ from call (A0j R L t)]
  exact this
 have hw:=A9Q t
 rw [show lS R t (n:Int) = _ from call (A5J R L t (n:Int)),e]
 unfold so
 by_cases h:t.length = 4 * n
 ·rw [if_pos h,dT (show t.length % 4 = 0 by omega)]
  simp (disch:=omega) only [st,Bool.not_true]
  exact ⟨_,⟨by show (wds t).length ≤ _;omega,.inl ⟨rfl,0,rfl,Nat.zero_le _,rfl⟩⟩,rfl⟩
 ·rw [if_neg h]
  by_cases h4:t.length % 4 = 0
  ·rw [dT h4]
   simp (disch:=omega) only [st,Bool.not_true,Bool.not_false]
   exact ⟨_,⟨Nat.zero_le _,.inr ⟨rfl,rfl,rfl⟩⟩,rfl⟩
  ·rw [dF h4]
   simp (disch:=omega) only [st,Bool.not_false]
   exact ⟨_,⟨Nat.zero_le _,.inr ⟨rfl,rfl,rfl⟩⟩,rfl⟩
theorem BF9 (b:Int) (hb:0 ≤ b) (o:LO):0 ≤ (pN b o).1 ∧ (pN b o).1 ≤ b:=by
 unfold pN
 split
 ·split
  ·rename_i h;exact rJ h
  ·exact ⟨Int.le_refl _,hb⟩
 ·exact ⟨Int.le_refl _,hb⟩
theorem BT8 (b:Int) (hb:0 ≤ b) (s:SO1):0 ≤ (sC b s).1 ∧ (sC b s).1 ≤ b:=by
 unfold sC
 split
 ·rename_i h;exact rJ h
 ·exact ⟨Int.le_refl _,hb⟩
theorem Ae3 {x:PR} {o:LO} (h:RP x o) (b:Int):∃ y,RP y (pN b o).2 ∧ yO R x 0 b = some ((pN b o).1,(y,())):=by
 obtain ⟨l,a,bad,u⟩:=x
 obtain ⟨hl,h⟩:=h
 have hl:l.length ≤ 1048576:=hl
 rw [show yO R (l,(a,(bad,u))) 0 b = _ from call (AQ6 R L _ 0 b)]
 rcases h with ⟨rfl,h⟩ | ⟨h,k,hk,hkl,rfl⟩
 ·have h:bad = true:=h
  subst h
  exact ⟨_,⟨hl,.inl ⟨rfl,rfl⟩⟩,rfl⟩
 ·have h:bad = false:=h
  subst h
  have hk:a = (k:Int):=hk
  subst hk
  have hkl:k ≤ l.length:=hkl
  show ∃ y,RP y (pN b (some (l.drop k))).2 ∧ _ = some ((pN b (some (l.drop k))).1,(y,()))
  by_cases he:k = l.length
  ·subst he
   rw [List.drop_length]
   simp (disch:=omega) only [st]
   refine ⟨_,?_,rfl⟩
   exact ⟨hl,.inl ⟨rfl,rfl⟩⟩
  ·have hlt:k < l.length:=by omega
   rw [xY (d:=0) hlt,show IntKind.wrap .i64 (IntKind.wrap .i64 ((k:Int) + 1) - 1) = (k:Int) by rw [zB (by omega),bM (by omega)],zB (by omega),rW]
   simp (disch:=omega) only [st]
   cases hx:inB (l.getD k 0) 0 b with
   | true=>
    have e:pN b (some (l.getD k 0 :: l.drop (k + 1))) = (l.getD k 0,some (l.drop (k + 1))):=by
     show (if inR (l.getD k 0) 0 b = true then _ else _) = _
     rw [if_pos (show inR (l.getD k 0) 0 b = true from hx)]
    rw [e]
    refine ⟨_,?_,rfl⟩
    exact ⟨hl,.inr ⟨rfl,k + 1,rfl,hlt,rfl⟩⟩
   | false=>
    have e:pN b (some (l.getD k 0 :: l.drop (k + 1))) = (0,none):=by
     show (if inR (l.getD k 0) 0 b = true then _ else _) = _
     rw [show inR (l.getD k 0) 0 b = false from hx];rfl
    rw [e]
    refine ⟨_,?_,rfl⟩
    exact ⟨hl,.inl ⟨rfl,rfl⟩⟩
theorem AG4 {x:SR} {s:SO1} (h:RS x s):∃ y,RS y (sN s).2 ∧ zO R x = some ((sN s).1,(y,())):=by
 obtain ⟨l,a,u⟩:=x
 obtain ⟨v,ov⟩:=s
 obtain ⟨hl,h⟩:=h
 have hl:l.length ≤ 1048576:=hl
 rw [show zO R (l,(a,u)) = _ from call (AD7 R L _)]
 rcases h with ⟨h,k,hk,hkl,hv⟩ | ⟨h,hv,hk⟩
 ·have h:ov = false:=h
  subst h
  have hk:a = (k:Int):=hk
  subst hk
  have hv:v = l.drop k:=hv
  subst hv
  have hkl:k ≤ l.length:=hkl
  by_cases he:k = l.length
  ·subst he
   rw [List.drop_length,dT (show ((l.length:Nat):Int) ≤ ((l.length:Nat):Int) by omega)]
   exact ⟨(l,(_,u)),⟨hl,.inl ⟨rfl,l.length,rfl,Nat.le_refl _,(List.drop_length ..).symm⟩⟩,rfl⟩
  ·have hlt:k < l.length:=by omega
   rw [xY (d:=0) hlt,dF (show ¬ ((l.length:Nat):Int) ≤ ((k:Nat):Int) by omega),show IntKind.wrap .i64 (IntKind.wrap .i64 ((k:Int) + 1) - 1) = (k:Int) by rw [zB (by omega),bM (by omega)],zB (by omega)]
   simp (disch:=omega) only [st]
   refine ⟨_,?_,rfl⟩
   exact ⟨hl,.inl ⟨rfl,k + 1,rfl,hlt,rfl⟩⟩
 ·have h:ov = true:=h
  subst h
  have hv:v = []:=hv
  subst hv
  have hk:a = (l.length:Int) + 1:=hk
  subst hk
  rw [dT (show ((l.length:Nat):Int) ≤ ((l.length:Nat):Int) + 1 by omega)]
  exact ⟨(l,(_,u)),⟨hl,.inr ⟨rfl,rfl,rfl⟩⟩,rfl⟩
theorem A0M {x:SR} {s:SO1} (h:RS x s) (b:Int):∃ y,RS y (sC b s).2 ∧ yR R x b = some ((sC b s).1,(y,())):=by
 obtain ⟨y,hy,e⟩:=AG4 h
 rw [show yR R x b = _ from call (aV R L x b),e]
 simp only [Option.bind_some,pC]
 unfold sC
 cases hx:inB (sN s).1 0 b with
 | true=>
  rw [if_pos (show inR (sN s).1 0 b = true from hx)]
  exact ⟨y,hy,rfl⟩
 | false=>
  rw [show inR (sN s).1 0 b = false from hx,if_neg Bool.false_ne_true,zH (by have:=hy.1;omega) (by have:=hy.1;omega)]
  refine ⟨_,?_,rfl⟩
  exact ⟨hy.1,.inr ⟨rfl,rfl,rfl⟩⟩
theorem A10 {b:Int} {n:Nat} (hn:n ≤ 1000):∀ (c i:Nat) {x:PR} {o:LO} (acc:List Int),i + c = n → RP x o → acc.length = i → ∃ y,RP y (pS b c o).2 ∧ wE R L x 0 b acc (n:Int) (i:Int) = some (acc ++ (pS b c o).1,(y,()))
 | 0,i,x,o,acc,hi,h,ha=>by
  rw [show wE R L x 0 b acc (n:Int) (i:Int) = _ from round (by kernel_rfl) (kD R L x 0 b acc (n:Int) (i:Int)),AG7 (by omega)]
  refine ⟨x,h,?_⟩
  show some (acc,_) = some (acc ++ [],_);rw [List.append_nil]
 | c + 1,i,x,o,acc,hi,h,ha=>by
  obtain ⟨y,hy,e⟩:=Ae3 h b
  obtain ⟨z,hz,e2⟩:=A10 hn c (i + 1) (acc ++ [(pN b o).1]) (by omega) hy (by rw [List.length_append,ha];rfl)
  refine ⟨z,hz,?_⟩
  rw [show wE R L x 0 b acc (n:Int) (i:Int) = _ from round (by kernel_rfl) (kD R L x 0 b acc (n:Int) (i:Int)),AE5 (by omega),e,zB (by omega)]
  simp (disch:=omega) only [st,e2]
  rw [List.append_assoc];rfl
theorem BX4 {b:Int} {n:Nat} (hn:n ≤ 1000) {x:PR} {o:LO} (h:RP x o):∃ y,RP y (pS b n o).2 ∧ xK R x (n:Int) 0 b = some ((pS b n o).1,(y,())):=by
 obtain ⟨y,hy,e⟩:=A10 (b:=b) hn n 0 [] (by omega) h rfl
 exact ⟨y,hy,Eq.trans (call (AD6 R L x (n:Int) 0 b):xK R x (n:Int) 0 b = _) e⟩
theorem BU1 {n:Nat} (hn:n ≤ 1000):∀ (c i:Nat) {x:PR} {o:LO} (acc:List TB),i + c = n → RP x o → acc.length = i → ∃ y,RP y (pB c o).2 ∧ wI R L x acc (n:Int) (i:Int) = some (acc ++ (pB c o).1,(y,()))
 | 0,i,x,o,acc,hi,h,ha=>by
  rw [show wI R L x acc (n:Int) (i:Int) = _ from round (by kernel_rfl) (kP R L x acc (n:Int) (i:Int)),AG7 (by omega)]
  refine ⟨x,h,?_⟩
  show some (acc,_) = some (acc ++ [],_);rw [List.append_nil]
 | c + 1,i,x,o,acc,hi,h,ha=>by
  obtain ⟨y1,h1,e1⟩:=Ae3 h 11
  obtain ⟨y2,h2,e2⟩:=Ae3 h1 7
  obtain ⟨y3,h3,e3⟩:=Ae3 h2 999999
  obtain ⟨z,hz,e4⟩:=BU1 hn c (i + 1) (acc ++ [(pB1 o).1]) (by omega) h3 (by rw [List.length_append,ha];rfl)
  refine ⟨z,hz,?_⟩
  rw [show wI R L x acc (n:Int) (i:Int) = _ from round (by kernel_rfl) (kP R L x acc (n:Int) (i:Int)),AE5 (by omega),e1,zB (by omega)]
  simp (disch:=omega) only [st,e2,e3]
  refine Eq.trans e4 ?_
  rw [List.append_assoc];rfl
theorem BR2 (b:Nat) (hb:b ≤ 1000) {x:PR} {o:LO} (h:RP x o):∃ y,RP y (pB (pN (b:Int) o).1.toNat (pN (b:Int) o).2).2 ∧ wL R x (b:Int) = some ((pB (pN (b:Int) o).1.toNat (pN (b:Int) o).2).1,(y,())):=by
 obtain ⟨y1,h1,e1⟩:=Ae3 h (b:Int)
 obtain ⟨n,hn⟩:=Int.eq_ofNat_of_zero_le (BF9 (b:Int) (by omega) o).1
 have hb2:=(BF9 (b:Int) (by omega) o).2
 obtain ⟨z,hz,e2⟩:=BU1 (n:=n) (by omega) n 0 [] (by omega) h1 rfl
 rw [show wL R x (b:Int) = _ from call (AH0 R L x (b:Int)),e1]
 simp only [Option.bind_some]
 rw [hn,Int.toNat_natCast]
 exact ⟨z,hz,e2⟩
theorem BU5 {x:PR} {o:LO} (h:RP x o):rL R x = some (pE o,(x,())):=by
 obtain ⟨l,a,bad,u⟩:=x
 obtain ⟨hl,h⟩:=h
 have hl:l.length ≤ 1048576:=hl
 rw [show rL R (l,(a,(bad,u))) = _ from call (AS3 R L _)]
 rcases h with ⟨rfl,h⟩ | ⟨h,k,hk,hkl,rfl⟩
 ·have h:bad = true:=h
  subst h;rfl
 ·have h:bad = false:=h
  subst h
  have hk:a = (k:Int):=hk
  subst hk
  have hkl:k ≤ l.length:=hkl
  show cond (!false) (cond (zA (k:Int)) (cond (Nat.ble l.length l.length) (cond (Nat.ble (k:Int).toNat l.length) ((uL R (List.drop (k:Int).toNat (List.take l.length l)) _).bind fun r0=>_) none) none) none) _ = _
  rw [List.take_length,iN (l.drop (k:Int).toNat) _ (fun n=>decide (n = 0)) (by rw [List.length_drop];omega) (fun s _=>by
   rw [AE1,show nW R s = _ from call (AH9 R L s)];rfl)]
  simp (disch:=omega) only [st,Bool.not_false]
  rfl
theorem BU6 {x:SR} {s:SO1} (h:RS x s):tJ R x = some (sE s,(x,())):=by
 obtain ⟨l,a,u⟩:=x
 obtain ⟨v,ov⟩:=s
 obtain ⟨hl,h⟩:=h
 have hl:l.length ≤ 1048576:=hl
 rw [show tJ R (l,(a,u)) = _ from call (AD9 R L _)]
 have hm:∀ (n i k:Nat),l.length - i = n → i ≤ l.length → k ≤ l.length → yS R L (l,((k:Int),u)) (i:Int) = some ((l.drop i).all fun n=>decide (n = 0),((l,((k:Int),u)),())):=by
  intro n
  induction n with
  | zero=>
   intro i k hn hi hk
   rw [show yS R L (l,((k:Int),u)) (i:Int) = _ from round (by kernel_rfl) (qY R L _ (i:Int)),AG7 (by show l.length ≤ i;omega),List.drop_eq_nil_of_le (by omega)]
   show some (decide ((k:Int) ≤ (l.length:Int)),_) = _
   rw [dT (show (k:Int) ≤ (l.length:Int) by omega)];rfl
  | succ n ih=>
   intro i k hn hi hk
   have hlt:i < l.length:=by omega
   rw [show yS R L (l,((k:Int),u)) (i:Int) = _ from round (by kernel_rfl) (qY R L _ (i:Int)),AE5 (show i < l.length from hlt),xY (d:=0) hlt,List.all_cons,zB (by omega)]
   simp (disch:=omega) only [st]
   rw [ih (i + 1) k (by omega) (by omega) hk,vK]
   cases decide (l.getD i 0 = 0) <;> rfl
 rcases h with ⟨h,k,hk,hkl,hv⟩ | ⟨h,hv,hk⟩
 ·have h:ov = false:=h
  subst h
  have hk:a = (k:Int):=hk
  subst hk
  have hv:v = l.drop k:=hv
  subst hv
  refine (hm _ k k rfl hkl hkl).trans ?_
  unfold sE
  rw [Bool.not_false,Bool.and_true]
 ·have h:ov = true:=h
  subst h
  have hk:a = (l.length:Int) + 1:=hk
  subst hk
  show yS R L (l,((l.length:Int) + 1,u)) ((l.length:Int) + 1) = _
  rw [show yS R L (l,((l.length:Int) + 1,u)) ((l.length:Int) + 1) = _ from round (by kernel_rfl) (qY R L _ _),dF (show ¬ ((l.length:Int) + 1) < (l.length:Int) by omega)]
  show some (decide ((l.length:Int) + 1 ≤ (l.length:Int)),_) = _
  rw [dF (show ¬ ((l.length:Int) + 1) ≤ (l.length:Int) by omega),A0d rfl]
end Go.Rf.S

end
section
namespace Go.Rf.S
set_option maxRecDepth 100000
theorem A4y {α:Type} (F:Int → Option (Bool × Unit)) (v:List α) (d:α) (p:α → Bool)
  (stop:F (v.length:Nat) = some (false,()))
  (step:∀ (i:Nat),i < v.length → F i = cond (p (v.getD i d)) (some (true,())) (F ((i + 1:Nat):Int))):
  ∀ (n i:Nat),v.length - i = n → i ≤ v.length → F i = some ((v.drop i).any p,())
 | 0,i,hn,hi=>by
  have:i = v.length:=by omega
  subst this
  rw [stop,List.drop_eq_nil_of_le (Nat.le_refl _)];rfl
 | n + 1,i,hn,hi=>by
  rw [step i (by omega),xY (d:=d) (by omega),List.any_cons,A4y F v d p stop step n (i + 1) (by omega) (by omega)]
  cases p (v.getD i d) <;> rfl
theorem A9B:∀ (f a:Nat) (acc:List Int),a + 2 ≤ 2 ^ f → acc.length + f ≤ 60 → lJ R L acc (a:Int) = some (A12 f a ++ acc,())
 | 0,a,acc,h,_=>by rw [Nat.pow_zero] at h;omega
 | f + 1,a,acc,h,hl=>by
  rw [Nat.pow_succ] at h
  rw [show lJ R L acc (a:Int) = _ from round (by kernel_rfl) (A0S R L acc (a:Int))]
  unfold A12
  by_cases h0:a = 0
  ·subst h0
   simp (disch:=omega) only [st]
   rfl
  ·have ha:a ≤ 4611686018427387904:=by
    have:(2:Nat) ^ f ≤ 2 ^ 61:=Nat.pow_le_pow_right (by decide) (by omega)
    omega
   have e:IntKind.wrap .i64 (Int.tdiv (IntKind.wrap .i64 ((a:Int) - 1)) 2) = (((a - 1) / 2:Nat):Int):=by
    rw [zH (n:=(a:Int) - 1) (by omega) (by omega),show (a:Int) - 1 = ((a - 1:Nat):Int) by omega]
    show IntKind.wrap .i64 (((a - 1) / 2:Nat):Int) = _
    rw [zH (by omega) (by omega)]
   rw [if_neg h0,e]
   simp (disch:=omega) only [st]
   rw [A9B f ((a - 1) / 2) _ (by omega) (by simp only [List.length_append,List.length_cons,List.length_nil];omega),List.append_assoc]
theorem Bk9 {l:Int} (h:inB l 0 7 = true):AB7 R l = some (AD8 l,()):=by
 have hb:=rJ h
 have:=A9B 4 (7 + l.toNat) [] (by omega) (by simp)
 rw [List.append_nil] at this
 rw [show AB7 R l = _ from call (A4I R L l),show IntKind.wrap .i64 (7 + l) = ((7 + l.toNat:Nat):Int) by rw [zH (by omega) (by omega)];omega]
 exact this
theorem Ao9:∀ f a,(A12 f a).length ≤ f
 | 0,_=>Nat.le_refl _
 | f + 1,a=>by
  unfold A12
  split
  ·simp
  ·have:=Ao9 f ((a - 1) / 2)
   rw [List.length_append];simp only [List.length_cons,List.length_nil];omega
theorem Bv5 (i:Nat) {l:Int} (h:inB l 0 7 = true):AX0 R (i:Int) l = some (onB i l,()):=by
 have hl:(AD8 l).length ≤ 4:=Ao9 _ _
 rw [show AX0 R (i:Int) l = _ from call (A9y R L (i:Int) l),Bk9 h]
 exact A4y (fun k=>pW R L (i:Int) (AD8 l) k) (AD8 l) 0 (fun x=>decide (x = (i:Int))) (by
   show pW R L (i:Int) (AD8 l) ((AD8 l).length:Nat) = _
   rw [show pW R L (i:Int) (AD8 l) ((AD8 l).length:Nat) = _ from round (by kernel_rfl) (An5 R L (i:Int) (AD8 l) ((AD8 l).length:Nat)),AG7 (Nat.le_refl _)];rfl) (fun k hk=>by
   show pW R L (i:Int) (AD8 l) (k:Nat) = _
   rw [show pW R L (i:Int) (AD8 l) (k:Nat) = _ from round (by kernel_rfl) (An5 R L (i:Int) (AD8 l) (k:Nat)),AE5 hk,zB (by omega)]
   simp (disch:=omega) only [st,vK]) _ 0 rfl (Nat.zero_le _)
theorem Bt6 (l:List Int) (n:Int) (hl:l.length ≤ 1048576):AG6 R l n = some (AQ2 l n,()):=by
 rw [show AG6 R l n = _ from call (A9d R L l n)]
 exact A4y (fun k=>pM R L l n k) l 0 (fun x=>decide (x = n)) (by
   show pM R L l n (l.length:Nat) = _
   rw [show pM R L l n (l.length:Nat) = _ from round (by kernel_rfl) (Ao5 R L l n (l.length:Nat)),AG7 (Nat.le_refl _)];rfl) (fun k hk=>by
   show pM R L l n (k:Nat) = _
   rw [show pM R L l n (k:Nat) = _ from round (by kernel_rfl) (Ao5 R L l n (k:Nat)),AE5 hk,zB (by omega)]
   simp (disch:=omega) only [st,vK]) _ 0 rfl (Nat.zero_le _)
abbrev DO:Type:=List Int × (List DB × (List (List DB) × Unit))
theorem A8E (o:DO) (b:DB) (seen:List Int) (ho:o.1.length = 12) (hs:seen.length ≤ 1048576):gK R o b seen = some (A3e o.1 b && !AQ2 seen b.1,()):=by
 rw [show gK R o b seen = _ from call (A2N R L o b seen),pC]
 unfold A3e
 cases h1:inB b.1 0 11 with
 | false=>rw [show inR b.1 0 11 = false from h1];rfl
 | true=>
  have hb:=rJ h1
  rw [show inR b.1 0 11 = true from h1]
  simp (disch:=omega) only [st,vK,pC,Bt6 seen b.1 hs]
  rw [show inB b.2.2.1 0 999999 = inR b.2.2.1 0 999999 from rfl]
  cases decide (o.1.getD b.1.toNat 0 = b.2.1) <;> cases inR b.2.2.1 0 999999 <;> rfl
theorem BA0 (o:DO) (i:Nat) (ho:o.1.length = 12) (hp:o.1.all gW = true) (hi:i < o.2.2.1.length) (hk:(o.2.2.1.getD i []).length ≤ 2) (hbl:o.2.2.1.length = 15):∀ (n k:Nat) (seen:List Int),(o.2.2.1.getD i []).length - k = n → k ≤ (o.2.2.1.getD i []).length → seen.length + 3 ≤ 1048576 + k →
  mM R L o seen (i:Int) (k:Int) = cond (BG6 o.1 i seen ((o.2.2.1.getD i []).drop k)) (oD R L o (seen ++ ids ((o.2.2.1.getD i []).drop k)) ((i + 1:Nat):Int)) (some (false,()))
 | 0,k,seen,hn,hkl,hs=>by
  rw [show mM R L o seen (i:Int) (k:Int) = _ from round (by kernel_rfl) (Ag4 R L o seen (i:Int) (k:Int)),List.drop_eq_nil_of_le (by omega),zB (by omega)]
  simp (disch:=omega) only [st,dF]
  rw [show ids [] = [] from rfl,List.append_nil];rfl
 | n + 1,k,seen,hn,hkl,hs=>by
  have hlt:k < (o.2.2.1.getD i []).length:=by omega
  rw [show mM R L o seen (i:Int) (k:Int) = _ from round (by kernel_rfl) (Ag4 R L o seen (i:Int) (k:Int)),xY (d:=(0,(0,(0,())))) hlt,zB (i:=k) (by omega)]
  generalize hB:(o.2.2.1.getD i []).getD k (0,(0,(0,()))) = b
  simp (disch:=omega) only [st,dT,hB,A8E o b seen ho (by omega)]
  rw [A8d]
  cases h1:(A3e o.1 b && !AQ2 seen b.1) with
  | false=>rfl
  | true=>
   have hb:inB b.2.1 0 7 = true:=by
    have:=h1
    simp only [Bool.and_eq_true] at this
    have:=A4x ho hp this.1
    unfold Ag9 at this
    simp only [Bool.and_eq_true] at this
    exact this.2.1
   rw [Bv5 i hb]
   simp only [Option.bind_some]
   cases onB i b.2.1 with
   | false=>rfl
   | true=>
    have ih:=BA0 o i ho hp hi hk hbl n (k + 1) (seen ++ [b.1]) (by omega) (by omega) (by rw [List.length_append];simp only [List.length_cons,List.length_nil];omega)
    simp (disch:=omega) only [st,Bool.not_true,ih]
    rw [show ids (b :: (o.2.2.1.getD i []).drop (k + 1)) = [b.1] ++ ids ((o.2.2.1.getD i []).drop (k + 1)) from rfl,List.append_assoc];rfl
theorem A8i (o:DO) (ho:o.1.length = 12) (hp:o.1.all gW = true) (hbl:o.2.2.1.length = 15):∀ (n i:Nat) (seen:List Int),15 - i = n → i ≤ 15 → seen.length ≤ 1000 + 2 * i → oD R L o seen (i:Int) = some (bkS o.1 i seen (o.2.2.1.drop i),())
 | 0,i,seen,hn,hi,hs=>by
  rw [show oD R L o seen (i:Int) = _ from round (by kernel_rfl) (Af2 R L o seen (i:Int)),dF (show ¬ (i:Int) < 15 by omega),List.drop_eq_nil_of_le (by omega)];rfl
 | n + 1,i,seen,hn,hi,hs=>by
  have hlt:i < o.2.2.1.length:=by omega
  rw [show oD R L o seen (i:Int) = _ from round (by kernel_rfl) (Af2 R L o seen (i:Int)),dT (show (i:Int) < 15 by omega),xY (d:=[]) hlt]
  rw [BL8]
  simp (disch:=omega) only [st]
  by_cases hk:(o.2.2.1.getD i []).length ≤ 2
  ·rw [dF (show ¬ (2:Int) < ((o.2.2.1.getD i []).length:Int) by omega),dT hk]
   have e:=BA0 o i ho hp hlt hk hbl _ 0 seen rfl (Nat.zero_le _) (by omega)
   rw [List.drop_zero] at e
   simp only [cond_false,Bool.true_and]
   refine Eq.trans e ?_
   cases BG6 o.1 i seen (o.2.2.1.getD i []) with
   | false=>rfl
   | true=>
    rw [cond_true,A8i o ho hp hbl n (i + 1) _ (by omega) (by omega) (by rw [List.length_append,show (ids (o.2.2.1.getD i [])).length = (o.2.2.1.getD i []).length from List.length_map _];omega)];rfl
  ·rw [dT (show (2:Int) < ((o.2.2.1.getD i []).length:Int) by omega),dF hk];rfl
theorem A93 (o:DO) (ho:o.1.length = 12) (hp:o.1.all gW = true) (hbl:o.2.2.1.length = 15) (hst:o.2.1.length ≤ 12):∀ (n i:Nat) (seen:List Int),o.2.1.length - i = n → i ≤ o.2.1.length → seen.length = i →
  mL R L o seen (i:Int) = some (Ah1 o.1 seen (o.2.1.drop i) && bkS o.1 0 (seen ++ ids (o.2.1.drop i)) o.2.2.1,())
 | 0,i,seen,hn,hi,hs=>by
  rw [show mL R L o seen (i:Int) = _ from round (by kernel_rfl) (Af7 R L o seen (i:Int)),AG7 (by omega),List.drop_eq_nil_of_le (by omega)]
  have:=A8i o ho hp hbl 15 0 seen rfl (by omega) (by omega)
  rw [show ids [] = [] from rfl,List.append_nil]
  exact this
 | n + 1,i,seen,hn,hi,hs=>by
  have hlt:i < o.2.1.length:=by omega
  rw [show mL R L o seen (i:Int) = _ from round (by kernel_rfl) (Af7 R L o seen (i:Int)),AE5 hlt,xY (d:=(0,(0,(0,())))) hlt,zB (i:=i) (by omega)]
  generalize hB:o.2.1.getD i (0,(0,(0,()))) = b
  have ih:=A93 o ho hp hbl hst n (i + 1) (seen ++ [b.1]) (by omega) (by omega) (by rw [List.length_append,hs];rfl)
  simp (disch:=omega) only [st,hB,A8E o b seen ho (by omega),ih]
  rw [BF1]
  cases (A3e o.1 b && !AQ2 seen b.1) with
  | false=>rfl
  | true=>
   rw [show ids (b :: o.2.1.drop (i + 1)) = [b.1] ++ ids (o.2.1.drop (i + 1)) from rfl,← List.append_assoc,Bool.true_and];rfl
theorem Bf8 (o:DO) (h1:o.1.length ≤ 4096):AK0 R o = some (Al6 o,()):=by
 rw [show AK0 R o = _ from call (A6u R L o),BK4 o.1 (by omega)]
 unfold Al6
 rw [show o.1.all A1g = o.1.all gW from rfl]
 by_cases a1:o.1.length = 12
 ·rw [dT a1]
  simp (disch:=omega) only [st,Bool.not_true]
  cases hp:o.1.all gW with
  | false=>rfl
  | true=>
   by_cases a2:o.2.1.length ≤ 12
   ·rw [dT a2,dF (show ¬ (12:Int) < (o.2.1.length:Int) by omega)]
    by_cases a3:o.2.2.1.length = 15
    ·have:=A93 o a1 hp a3 a2 _ 0 [] rfl (Nat.zero_le _) rfl
     rw [dT a3]
     simp (disch:=omega) only [st,Bool.not_true]
     exact this
    ·rw [dF a3]
     simp (disch:=omega) only [st,Bool.not_true,Bool.not_false]
     rfl
   ·rw [dF a2,dT (show (12:Int) < (o.2.1.length:Int) by omega)];rfl
 ·rw [dF a1]
  simp (disch:=omega) only [st,Bool.not_false]
  rfl
theorem BM1:∀ (l:List Int) (i:Nat),i < l.length → l.take (i + 1) = l.take i ++ [l.getD i 0]:=fun l i h=>by
 rw [List.take_add_one,List.getD_eq_getElem?_getD,List.getElem?_eq_getElem h];rfl
theorem BS3 (e:DE) (he:e.1.length ≤ 1000):∀ (n i:Nat),e.1.length - i = n → i ≤ e.1.length → pL R L e (i:Int) = some (Be8 (e.1.take i) (e.1.drop i),())
 | 0,i,hn,hi=>by
  rw [show pL R L e (i:Int) = _ from round (by kernel_rfl) (Ao6 R L e (i:Int)),AG7 (i:=i) (n:=e.1.length) (by omega),(List.drop_eq_nil_of_le (by omega):e.1.drop i = [])];rfl
 | n + 1,i,hn,hi=>by
  have hlt:i < e.1.length:=by omega
  rw [show pL R L e (i:Int) = _ from round (by kernel_rfl) (Ao6 R L e (i:Int)),AE5 hlt,xY (d:=0) hlt,zB (by omega),pC,BS3 e he n (i + 1) (by omega) (by omega),BM1 e.1 i hlt,tn]
  generalize e.1.getD i 0 = k
  simp (disch:=omega) only [st,List.drop_zero,Bt6 (e.1.take i) k (by rw [List.length_take];omega)]
  rw [show inB k 0 9999 = inR k 0 9999 from rfl]
  rw [A9A]
  cases inR k 0 9999 with
  | false=>rfl
  | true=>
   cases decide (0 < k) with
   | false=>rfl
   | true=>cases AQ2 (e.1.take i) k <;> rfl
theorem Bm5 (e:DE) (h:e.1.length ≤ 1048576) (h1:e.2.1.1.length ≤ 4096):AG8 R e = some (Aa9 e,()):=by
 rw [show AG8 R e = _ from call (A8S R L e),Bf8 e.2.1 h1]
 unfold Aa9
 by_cases a1:e.1.length = 11
 ·rw [dT a1]
  have e0:=BS3 e (by omega) _ 0 rfl (Nat.zero_le _)
  rw [List.take_zero,List.drop_zero,A5F e.1 [] [] (fun _ _=>rfl)] at e0
  have e0:pL R L e 0 = _:=e0
  simp (disch:=omega) only [st,Bool.not_true,e0]
  cases Al6 e.2.1 <;> cases A3g [] e.1 <;> rfl
 ·rw [dF a1]
  simp (disch:=omega) only [st,Bool.not_false]
  cases A3g [] e.1 <;> rfl
theorem Bp0 (r:DR) (hr:r.2.1.length ≤ 1048576):jB R r = some (A0s r,()):=by
 rw [show jB R r = _ from call (Ak3 R L r),pC]
 unfold A0s
 have h:=A0U (fun i=>xR R L r r false i) r.2.1 0 (fun n=>inB n 0 999999) true (by
  show xR R L r r false (r.2.1.length:Nat) = _
  rw [show xR R L r r false (r.2.1.length:Nat) = _ from round (by kernel_rfl) (bN R L r r false (r.2.1.length:Nat)),AG7 (Nat.le_refl _)];rfl) (fun i hlt=>by
  show xR R L r r false (i:Nat) = _
  rw [show xR R L r r false (i:Nat) = _ from round (by kernel_rfl) (bN R L r r false (i:Nat)),AE5 hlt,nn,tn,yB hlt,pC,zB (by omega)]
  simp only [cond_true,Option.bind_some]
  cases inB (r.2.1.getD i 0) 0 999999 <;> rfl) _ 0 rfl (by omega)
 have h:xR R L r r false 0 = some (r.2.1.all (fun n=>inB n 0 999999) && true,()):=h
 simp only [Option.bind_some,h,vK,Bool.and_true]
 cases inB r.1 0 19 with
 | false=>rfl
 | true=>
  by_cases a:r.2.1.length ≤ 32
  ·rw [dT a,dF (show ¬ (32:Int) < (r.2.1.length:Int) by omega)]
   by_cases z:r.2.1.length = 0
   ·rw [dT z,dF (show ¬ (0:Int) < (r.2.1.length:Int) by omega)]
    cases decide (r.1 = 0) <;> rfl
   ·rw [dF z,dT (show (0:Int) < (r.2.1.length:Int) by omega)]
    cases decide (r.1 = 0) <;> rfl
  ·rw [dF a,dT (show (32:Int) < (r.2.1.length:Int) by omega)];rfl
theorem Bg9 (l:List DR) (hl:l.length ≤ 1048576) (hr:∀ r ∈ l,r.2.1.length ≤ 1048576):iZ R l = some (AC6 l,()):=by
 have h:=A0U (fun i=>vY R L l false i) l (0,([],())) A0s (decide (l.length ≤ 2)) (by
  show vY R L l false (l.length:Nat) = _
  rw [show vY R L l false (l.length:Nat) = _ from round (by kernel_rfl) (AD1 R L l false (l.length:Nat)),AG7 (Nat.le_refl _),show decide ((l.length:Int) ≤ 2) = decide (l.length ≤ 2) from decide_eq_decide.2 (by omega)];rfl) (fun i hlt=>by
  show vY R L l false (i:Nat) = _
  rw [show vY R L l false (i:Nat) = _ from round (by kernel_rfl) (AD1 R L l false (i:Nat)),AE5 hlt,nn,tn,yB hlt,Bp0 _ (hr _ (tD hlt)),zB (by omega)]
  simp only [cond_true,Option.bind_some]
  cases A0s (l.getD i (0,([],()))) <;> rfl) _ 0 rfl (by omega)
 unfold AC6
 rw [Bool.and_comm]
 exact Eq.trans (call (Au4 R L l):iZ R l = _) h
theorem Bj7 (l:List DB) (hl:l.length ≤ 1048576):fT R l = some (A1k l,()):=by
 have h:=A0U (fun i=>uY R L l i) l (0,(0,(0,()))) Ag9 (decide (l.length ≤ 2)) (by
  show uY R L l (l.length:Nat) = _
  rw [show uY R L l (l.length:Nat) = _ from round (by kernel_rfl) (AE7 R L l (l.length:Nat)),AG7 (Nat.le_refl _),show decide ((l.length:Int) ≤ 2) = decide (l.length ≤ 2) from decide_eq_decide.2 (by omega)];rfl) (fun i hlt=>by
  show uY R L l (i:Nat) = _
  rw [show uY R L l (i:Nat) = _ from round (by kernel_rfl) (AE7 R L l (i:Nat)),AE5 hlt,nn,tn,yB hlt,zB (by omega)]
  simp only [cond_true,Option.bind_some,pC]
  generalize l.getD i (0,(0,(0,()))) = b
  unfold Ag9
  rw [show inR b.1 0 11 = inB b.1 0 11 from rfl,show inR b.2.1 0 7 = inB b.2.1 0 7 from rfl,show inR b.2.2.1 0 999999 = inB b.2.2.1 0 999999 from rfl]
  cases inB b.1 0 11 <;> cases inB b.2.1 0 7 <;> cases inB b.2.2.1 0 999999 <;> rfl) _ 0 rfl (by omega)
 exact Eq.trans (call (A0O R L l):fT R l = _) h
theorem Ba7 (l:List TR) (h:AC6 l = true):l.all Bc4 = true:=by
 unfold AC6 at h
 simp only [Bool.and_eq_true] at h
 rw [List.all_eq_true]
 intro r hr
 have:=List.all_eq_true.1 h.2 r hr
 unfold A0s at this
 simp only [Bool.and_eq_true] at this
 unfold Bc4
 rw [show inR r.1 0 19 = true from this.1,show (r.2.1.all fun v=>inR v 0 999999) = true from this.2.2.2];rfl
theorem Br0 (r:DR):dN R r = some (A0s r,()):=by
 rw [show dN R r = _ from call (A2B R L r),show AK4 R r.1 = some (inB r.1 0 19,()) by rw [show AK4 R r.1 = _ from call (A7X R L r.1),rW];rfl]
 unfold A0s
 simp only [Option.bind_some,vK]
 cases inB r.1 0 19 with
 | false=>rfl
 | true=>
  by_cases a:r.2.1.length ≤ 32
  ·rw [dT a,dT (show (r.2.1.length:Int) ≤ 32 by omega),iN r.2.1 _ (fun n=>inB n 0 999999) (by omega) (fun s _=>by rw [A1r,Ap4];rfl),show decide ((r.2.1.length:Int) = 0) = decide (r.2.1.length = 0) from decide_eq_decide.2 (by omega)]
   simp only [Option.bind_some,cond_true]
   cases (r.2.1.all fun n=>inB n 0 999999) <;> cases decide (r.1 = 0) <;> cases decide (r.2.1.length = 0) <;> rfl
  ·rw [dF a,dF (show ¬ (r.2.1.length:Int) ≤ 32 by omega)];rfl
theorem Bg8 (l:List DR):hP R l = some (AC6 l,()):=by
 rw [show hP R l = _ from call (As8 R L l)]
 unfold AC6
 by_cases a:l.length ≤ 2
 ·rw [dT a,dT (show (l.length:Int) ≤ 2 by omega),AE0 l _ A0s (by omega) (fun s _=>by rw [A06,Br0];rfl)]
  rfl
 ·rw [dF a,dF (show ¬ (l.length:Int) ≤ 2 by omega)];rfl
end Go.Rf.S

end
section
namespace Go.Rf.S
set_option maxRecDepth 100000
theorem Bo1 (l:List Int) (hl:l.length ≤ 1048576):nN R l = some (l.reverse,()):=
 (A8O (f:=366) rfl _).trans (A5s (E:=EE) (f:=366) (x:=(l.reverse,())) rfl (Bh9 (E:=EE) rfl l hl))
theorem BH6 (l:List (List DB)) (hl:l.length ≤ 1048576) (hf:l.flatten.length ≤ 1048576):rR R l = some (l.flatten,()):=
 (A8O (f:=303) rfl _).trans (A5s (E:=EE) (f:=303) (x:=(l.flatten,())) rfl (A9h (E:=EE) rfl l hl hf))
theorem A9r:∀ (f a:Nat) (acc:List Int),a + 2 ≤ 2 ^ f → acc.length + f ≤ 60 → kS R L acc (a:Int) = some (A12 f a ++ acc.reverse,())
 | 0,a,acc,h,_=>by rw [Nat.pow_zero] at h;omega
 | f + 1,a,acc,h,hl=>by
  rw [Nat.pow_succ] at h
  rw [show kS R L acc (a:Int) = _ from round (by kernel_rfl) (A15 R L acc (a:Int))]
  unfold A12
  by_cases h0:a = 0
  ·subst h0
   simp (disch:=omega) only [st,Bo1 (acc ++ [((0:Nat):Int)]) (by rw [List.length_append];simp only [List.length_cons,List.length_nil];omega)]
   rw [List.reverse_append];rfl
  ·have ha:a ≤ 4611686018427387904:=by
    have:(2:Nat) ^ f ≤ 2 ^ 61:=Nat.pow_le_pow_right (by decide) (by omega)
    omega
   have e:IntKind.wrap .i64 (Int.tdiv (IntKind.wrap .i64 ((a:Int) - 1)) 2) = (((a - 1) / 2:Nat):Int):=by
    rw [zH (n:=(a:Int) - 1) (by omega) (by omega),show (a:Int) - 1 = ((a - 1:Nat):Int) by omega]
    show IntKind.wrap .i64 (((a - 1) / 2:Nat):Int) = _
    rw [zH (by omega) (by omega)]
   rw [if_neg h0,e]
   simp (disch:=omega) only [st]
   rw [A9r f ((a - 1) / 2) _ (by omega) (by simp only [List.length_append,List.length_cons,List.length_nil];omega),List.reverse_append,List.append_assoc]
   rfl
theorem Bl0 {l:Int} (h:inB l 0 7 = true):AI7 R l = some (AD8 l,()):=by
 have hb:=rJ h
 have:=A9r 4 (7 + l.toNat) [] (by omega) (by simp)
 rw [List.reverse_nil,List.append_nil] at this
 rw [show AI7 R l = _ from call (A7n R L l),show IntKind.wrap .i64 (7 + l) = ((7 + l.toNat:Nat):Int) by rw [zH (by omega) (by omega)];omega]
 exact this
theorem Ba0 (l:List Int) (n:Int) (hl:l.length ≤ 1000):∃ k:Int,tU R l n = some (k,()) ∧ decide ((0:Int) ≤ k) = l.any fun x=>decide (x = n):=by
 have h:∀ (m i:Nat),l.length - i = m → i ≤ l.length → ∃ k:Int,xI R L l n (l.length:Int) (i:Int) = some (k,()) ∧ decide ((0:Int) ≤ k) = (l.drop i).any fun x=>decide (x = n):=by
  intro m
  induction m with
  | zero=>
   intro i hm hi
   rw [show xI R L l n (l.length:Int) (i:Int) = _ from round (by kernel_rfl) (nU R L l n (l.length:Int) (i:Int)),AG7 (by omega),List.drop_eq_nil_of_le (by omega)]
   exact ⟨-1,rfl,rfl⟩
  | succ m ih=>
   intro i hm hi
   have hlt:i < l.length:=by omega
   obtain ⟨k,e1,e2⟩:=ih (i + 1) (by omega) (by omega)
   rw [show xI R L l n (l.length:Int) (i:Int) = _ from round (by kernel_rfl) (nU R L l n (l.length:Int) (i:Int)),AE5 hlt,xY (d:=0) hlt,List.any_cons,zB (by omega)]
   simp (disch:=omega) only [st,e1,vK]
   by_cases hx:l.getD i 0 = n
   ·rw [dT hx.symm,dT hx]
    exact ⟨(i:Int),rfl,by rw [Bool.true_or];exact dT (by omega)⟩
   ·rw [dF (fun h=>hx h.symm),dF hx]
    exact ⟨k,rfl,by rw [Bool.false_or];exact e2⟩
 obtain ⟨k,e1,e2⟩:=h _ 0 rfl (Nat.zero_le _)
 exact ⟨k,Eq.trans (call (cR R L l n):tU R l n = _) e1,e2⟩
theorem Bu3 (i:Nat) {l:Int} (h:inB l 0 7 = true):gN R (i:Int) l = some (onB i l,()):=by
 obtain ⟨k,e1,e2⟩:=Ba0 (AD8 l) (i:Int) (Nat.le_trans (Ao9 _ _) (by decide))
 rw [show gN R (i:Int) l = _ from call (A1e R L (i:Int) l),Bl0 h]
 simp only [Option.bind_some]
 rw [show sQ R (AD8 l) (i:Int) = _ from call (fH R L (AD8 l) (i:Int)),e1]
 simp only [Option.bind_some]
 rw [e2];rfl
theorem A6L (n:Int):kH R n = some (gW n,()):=by
 rw [show kH R n = _ from call (Av4 R L n),rW];rfl
theorem A9V (b:DB):aM R b = some (Ag9 b,()):=by
 rw [show aM R b = _ from call (A47 R L b),show Aj0 R b.1 = some (inB b.1 0 11,()) by rw [show Aj0 R b.1 = _ from call (BJ4 R L b.1),rW];rfl,A6L,Ap4]
 unfold Ag9 gW
 rw [show inR b.1 0 11 = inB b.1 0 11 from rfl,show inR b.2.2.1 0 999999 = inB b.2.2.1 0 999999 from rfl]
 cases inB b.1 0 11 <;> cases inR b.2.1 0 7 <;> cases inB b.2.2.1 0 999999 <;> rfl
theorem Ba1 (l:List DB) (h:l.length ≤ 1099511627776):wH R l = some (l,()):=by
 rw [show wH R l = _ from call (jE R L l)]
 cases l with
 | nil=>exact AK2 _
 | cons a l=>show cond (yP (0 + (a :: l).length)) (some (a :: l,())) none = _;rw [vR (by omega)];rfl
theorem A9z (o:DO) (ho:o.1.length = 12) (all:List DB) (hal:all.length ≤ 1048576):∀ (n i:Nat) (arr:List Bool),all.length - i = n → i ≤ all.length → arr.length = 12 →
  mR R L o arr all (all.length:Int) (i:Int) = some (BF8 o.1 arr (all.drop i),())
 | 0,i,arr,hn,hi,ha=>by
  rw [show mR R L o arr all (all.length:Int) (i:Int) = _ from round (by kernel_rfl) (Ad4 R L o arr all (all.length:Int) (i:Int)),AG7 (by omega),List.drop_eq_nil_of_le (by omega)];rfl
 | n + 1,i,arr,hn,hi,ha=>by
  have hlt:i < all.length:=by omega
  rw [show mR R L o arr all (all.length:Int) (i:Int) = _ from round (by kernel_rfl) (Ad4 R L o arr all (all.length:Int) (i:Int)),AE5 hlt,xY (d:=(0,(0,(0,())))) hlt,zB (i:=i) (by omega),tn]
  generalize all.getD i (0,(0,(0,()))) = b
  simp (disch:=omega) only [st,A9V b]
  have hc:BF8 o.1 arr (b :: all.drop (i + 1)) = ((Ag9 b && (decide (b.2.1 = o.1.getD b.1.toNat 0) && !arr.getD b.1.toNat false)) && BF8 o.1 (arr.set b.1.toNat true) (all.drop (i + 1))):=rfl
  rw [hc]
  cases h1:Ag9 b with
  | false=>rfl
  | true=>
   have hb:0 ≤ b.1 ∧ b.1 ≤ 11:=by
    unfold Ag9 at h1
    simp only [Bool.and_eq_true] at h1
    exact rJ h1.1
   have ih:=A9z o ho all hal n (i + 1) (arr.set b.1.toNat true) (by omega) (by omega) (by rw [List.length_set];exact ha)
   simp (disch:=omega) only [st,Bool.not_true,vK,ih]
   cases decide (b.2.1 = o.1.getD b.1.toNat 0) with
   | false=>rfl
   | true=>cases arr.getD b.1.toNat false <;> rfl
theorem A81 (o:DO) (ho:o.1.length = 12) (hbl:o.2.2.1.length = 15) (hf:o.2.1.length + o.2.2.1.flatten.length ≤ 1048576):∀ (n i:Nat),15 - i = n → i ≤ 15 →
  oJ R L o o.2.2.1 (o.2.2.1.length:Int) (i:Int) = some (BZ9 i (o.2.2.1.drop i) && BF8 o.1 (List.replicate 12 false) (o.2.1 ++ o.2.2.1.flatten),())
 | 0,i,hn,hi=>by
  rw [show oJ R L o o.2.2.1 (o.2.2.1.length:Int) (i:Int) = _ from round (by kernel_rfl) (Ae0 R L o o.2.2.1 (o.2.2.1.length:Int) (i:Int)),AG7 (by omega),List.drop_eq_nil_of_le (by omega)]
  have ea:cP R o = some (o.2.1 ++ o.2.2.1.flatten,()):=by
   rw [show cP R o = _ from call (A3X R L o),Ba1 _ (by omega),BH6 _ (by omega) (by omega)]
   simp (disch:=omega) only [st]
  have:=A9z o ho (o.2.1 ++ o.2.2.1.flatten) (by rw [List.length_append];exact hf) _ 0 (List.replicate 12 false) rfl (Nat.zero_le _) rfl
  simp only [cond_false,ea,Option.bind_some]
  exact this
 | n + 1,i,hn,hi=>by
  have hlt:i < o.2.2.1.length:=by omega
  have ih:=A81 o ho hbl hf n (i + 1) (by omega) (by omega)
  have hm:o.2.2.1.getD i [] ∈ o.2.2.1:=tD hlt
  rw [show oJ R L o o.2.2.1 (o.2.2.1.length:Int) (i:Int) = _ from round (by kernel_rfl) (Ae0 R L o o.2.2.1 (o.2.2.1.length:Int) (i:Int)),AE5 hlt,xY (d:=[]) hlt,zB (i:=i) (by omega),tn,ih]
  generalize o.2.2.1.getD i [] = k
  have hc:BZ9 i (k :: o.2.2.1.drop (i + 1)) = ((decide (k.length ≤ 2) && k.all fun b=>gW b.2.1 && onB i b.2.1) && BZ9 (i + 1) (o.2.2.1.drop (i + 1))):=rfl
  rw [hc]
  simp (disch:=omega) only [st]
  by_cases hk:k.length ≤ 2
  ·rw [dT hk,dF (show ¬ (2:Int) < (k.length:Int) by omega),AI4 k _ (fun b=>gW b.2.1 && onB i b.2.1) (by omega) (fun b _=>by
    rw [A17,show AR9 R b (i:Int) = _ from call (A4X R L b (i:Int)),A6L]
    cases hb:gW b.2.1 with
    | false=>rfl
    | true=>
     rw [show gN R (i:Int) b.2.1 = _ from Bu3 i hb];rfl)]
   simp only [cond_false,Option.bind_some,Bool.true_and]
   cases (k.all fun b=>gW b.2.1 && onB i b.2.1) <;> rfl
  ·rw [dF hk,dT (show (2:Int) < (k.length:Int) by omega)];rfl
theorem Bi9 (o:DO) (h1:o.1.length ≤ 4096) (hf:o.2.1.length + o.2.2.1.flatten.length ≤ 1048576):AZ6 R o = some (Al6 o,()):=by
 rw [show AZ6 R o = _ from call (A6k R L o),← BP0,show uL R o.1 (FnVal.mk 205 FCaps.nil) = _ from A7k o.1 h1]
 unfold Bb5
 rw [show o.1.all A1g = o.1.all gW from rfl]
 by_cases a1:o.1.length = 12
 ·rw [dT a1]
  simp (disch:=omega) only [st,Bool.not_true]
  cases o.1.all gW with
  | false=>rfl
  | true=>
   by_cases a3:o.2.2.1.length = 15
   ·have e0:oJ R L o o.2.2.1 (o.2.2.1.length:Int) 0 = _:=A81 o a1 a3 hf 15 0 rfl (by omega)
    rw [dT a3]
    simp (disch:=omega) only [st,Bool.not_true,e0]
    rfl
   ·rw [dF a3]
    simp (disch:=omega) only [st,Bool.not_true,Bool.not_false]
    rfl
 ·rw [dF a1]
  simp (disch:=omega) only [st,Bool.not_false]
  rfl
theorem Bg0 (e:DE) (hk:e.1.length ≤ 1048576) (h1:e.2.1.1.length ≤ 4096) (hf:e.2.1.2.1.length + e.2.1.2.2.1.flatten.length ≤ 1048576):Ak4 R e = some (Aa9 e,()):=
 (A8O (f:=162) rfl _).trans (A5s (E:=EE) (f:=162) (x:=(Aa9 e,())) rfl
  (Bj5 (E:=EE) rfl e hk (fun x _=>A6s _ _ _ (A8g x)) (A6s _ _ _ (Bi9 e.2.1 h1 hf))))
end Go.Rf.S

end
section
namespace Go.Rf.S
set_option maxRecDepth 100000
theorem Bu4 {a b:Nat} (h:a ^^^ b = 0):a = b:=by
 have e:a = (a ^^^ b) ^^^ b:=by rw [Nat.xor_assoc,Nat.xor_self,Nat.xor_zero]
 rw [h,Nat.zero_xor] at e
 exact e
theorem A6R {a b:List UInt8} (hl:a.length = b.length) (ha:a.length ≤ 65536):∀ (n i acc:Nat),a.length - i = n → i ≤ a.length → acc < 256 →
  qW R L a b (acc:Int) (i:Int) = some (decide (acc = 0) && decide (a.drop i = b.drop i),())
 | 0,i,acc,hn,hi,hc=>by
  rw [show qW R L a b (acc:Int) (i:Int) = _ from round (by kernel_rfl) (AP0 R L a b (acc:Int) (i:Int)),AG7 (i:=i) (n:=a.length) (by omega),(List.drop_eq_nil_of_le (by omega):a.drop i = []),(List.drop_eq_nil_of_le (by omega):b.drop i = []),Bt3]
  cases decide (acc = 0) with
  | false=>rfl
  | true=>simp only [cond_false,cond_true];rw [vK,dT (show (a.length:Int) = (b.length:Int) by omega)];rfl
 | n + 1,i,acc,hn,hi,hc=>by
  have hlt:i < a.length:=by omega
  have hlb:i < b.length:=by omega
  rw [show qW R L a b (acc:Int) (i:Int) = _ from round (by kernel_rfl) (AP0 R L a b (acc:Int) (i:Int)),AE5 hlt,AE5 hlb,xY (d:=0) hlt,xY (d:=0) hlb,zB (by omega),tn]
  generalize a.getD i 0 = x
  generalize b.getD i 0 = y
  have hx:x.toNat < 2 ^ 8:=x.toNat_lt
  have hy:y.toNat < 2 ^ 8:=y.toNat_lt
  have hxy:x.toNat ^^^ y.toNat < 2 ^ 8:=Nat.xor_lt_two_pow hx hy
  have ho:acc ||| (x.toNat ^^^ y.toNat) < 2 ^ 8:=Nat.or_lt_two_pow hc hxy
  have e1:xH .xor .u8 (x.toNat:Int) (y.toNat:Int) = ((x.toNat ^^^ y.toNat:Nat):Int):=A1F (k:=.u8) hx hy
  have e2:IntKind.wrap .i64 ((x.toNat ^^^ y.toNat:Nat):Int) = ((x.toNat ^^^ y.toNat:Nat):Int):=sO (by omega)
  have e3:xH .or .i64 (acc:Int) ((x.toNat ^^^ y.toNat:Nat):Int) = ((acc ||| (x.toNat ^^^ y.toNat):Nat):Int):=Ag7 (k:=.i64) (by show acc < 2 ^ 63;omega) (by show _ < 2 ^ 63;omega)
  simp (disch:=omega) only [st,e1,e2,e3,A6R hl ha n (i + 1) _ (by omega) (by omega) ho]
  congr 2
  by_cases h0:acc = 0
  ·subst h0
   by_cases hq:x = y
   ·subst hq
    rw [Nat.zero_or,Nat.xor_self]
    simp
   ·have:x.toNat ^^^ y.toNat ≠ 0:=fun h=>hq (UInt8.toNat_inj.1 (Bu4 h))
    rw [Nat.zero_or,dF this]
    simp [hq]
  ·have:acc ||| (x.toNat ^^^ y.toNat) ≠ 0:=fun h=>h0 (Nat.or_eq_zero_iff.1 h).1
   rw [dF this,dF h0];rfl
theorem BU9 {a b:List UInt8} (hl:a.length = b.length) (ha:a.length ≤ 65536):cD R a b = some (decide (a = b),()):=by
 have:=A6R hl ha _ 0 0 rfl (Nat.zero_le _) (by decide)
 rw [show cD R a b = _ from call (A3Q R L a b),dF (show ¬ (65536:Int) < (a.length:Int) by omega),dF (show ¬ (65536:Int) < (b.length:Int) by omega)]
 exact this
noncomputable def A30 (key nonce ad t:List UInt8):List UInt8 × Bool:=
 if t.length < 16 then ([],false) else if btF key nonce ad (t.take (t.length - 16)) = t.drop (t.length - 16) then (chX key nonce ((t.take (t.length - 16)).length / 64 + 1) 1 (t.take (t.length - 16)),true) else ([],false)
theorem Bl5 {key nonce ad t:List UInt8} (hk:key.length = 32) (hn:nonce.length = 12) (ha:ad.length ≤ 1048576) (ht:t.length ≤ 1048576):
  AL1 R key nonce ad t = some ((A30 key nonce ad t).1,((A30 key nonce ad t).2,())) ∧ iK R key nonce ad t = some ((A30 key nonce ad t).1,((A30 key nonce ad t).2,())) ∧ (A30 key nonce ad t).1.length ≤ t.length:=by
 unfold A30
 by_cases h16:t.length < 16
 ·rw [if_pos h16]
  refine ⟨?_,?_,Nat.zero_le _⟩
  ·rw [show AL1 R key nonce ad t = _ from call (A6W R L key nonce ad t),dT (show (t.length:Int) < 16 by omega)];rfl
  ·rw [show iK R key nonce ad t = _ from call (Al9 R L key nonce ad t),dT (show (t.length:Int) < 16 by omega)];rfl
 ·rw [if_neg h16]
  obtain ⟨m,hm⟩:∃ m,t.length = m + 16:=⟨t.length - 16,by omega⟩
  have hw:IntKind.wrap .i64 ((t.length:Int) - 16) = (m:Int):=by rw [zH (by omega) (by omega)];omega
  have hml:(t.take m).length = m:=by rw [List.length_take];omega
  obtain ⟨b1,b2,b3⟩:=BN6 (key:=key) (nonce:=nonce) (ad:=ad) (t:=t.take m) hk hn (by omega) (by omega)
  have c1:Aa4 R key nonce 1 (t.take m) = some (chX key nonce ((t.take m).length / 64 + 1) 1 (t.take m),()):=BO9 key nonce hk hn 1 (t.take m) (by omega) (by decide)
  have c2:bF R key nonce 1 (t.take m) = some (chX key nonce ((t.take m).length / 64 + 1) 1 (t.take m),()):=A9l key nonce hk hn 1 (t.take m) (by omega) (by decide)
  have hd:(t.drop m).length = 16:=by rw [List.length_drop];omega
  rw [show t.length - 16 = m by omega]
  refine ⟨?_,?_,?_⟩
  ·rw [show AL1 R key nonce ad t = _ from call (A6W R L key nonce ad t),dF (show ¬ (t.length:Int) < 16 by omega),hw,List.take_length]
   simp (disch:=omega) only [st,List.drop_zero,b1,gV]
   by_cases h:btF key nonce ad (t.take m) = t.drop m
   ·rw [dT h,if_pos h]
    simp (disch:=omega) only [st,Bool.not_true,c1]
   ·rw [dF h,if_neg h];rfl
  ·rw [show iK R key nonce ad t = _ from call (Al9 R L key nonce ad t),dF (show ¬ (t.length:Int) < 16 by omega),hw,List.take_length]
   simp (disch:=omega) only [st,List.drop_zero,b2,hml,BU9 (a:=btF key nonce ad (t.take m)) (b:=t.drop m) (by rw [b3,hd]) (by rw [b3];decide)]
   by_cases h:btF key nonce ad (t.take m) = t.drop m
   ·rw [dT h,if_pos h]
    simp (disch:=omega) only [st,Bool.not_true,c2]
    rw [hml]
   ·rw [dF h,if_neg h];rfl
  ·split
   ·have:=Bb7 hk hn (t.take m) (by omega)
    show (chX key nonce ((t.take m).length / 64 + 1) 1 (t.take m)).length ≤ _
    omega
   ·exact Nat.zero_le _
noncomputable def opD (key:List UInt8) (a b c:Nat) (t:List UInt8):List UInt8 × Bool:=A30 key (BT5 a b c) blk t
theorem A01 {key t:List UInt8} (hk:key.length = 32) (ht:t.length ≤ 1048576) (a b c:Nat):
  jZ R key (a:Int) (b:Int) (c:Int) t = some ((opD key a b c t).1,((opD key a b c t).2,())) ∧ lT R key (a:Int) (b:Int) (c:Int) t = some ((opD key a b c t).1,((opD key a b c t).2,())) ∧ (opD key a b c t).1.length ≤ t.length:=by
 obtain ⟨h1,h2,h3⟩:=Bl5 (ad:=blk) (t:=t) hk (BK2 a b c) (by decide) ht
 refine ⟨?_,?_,h3⟩
 ·rw [show jZ R key (a:Int) (b:Int) (c:Int) t = _ from call (A60 R L key (a:Int) (b:Int) (c:Int) t),(A9b a b c).1]
  show (AL1 R key (BT5 a b c) blk t).bind _ = _
  rw [h1];rfl
 ·rw [show lT R key (a:Int) (b:Int) (c:Int) t = _ from call (A4G R L key (a:Int) (b:Int) (c:Int) t),(A9b a b c).2]
  show (iK R key (BT5 a b c) blk t).bind _ = _
  rw [h2];rfl
def bOK (t:List UInt8):Bool:=pE (pV (po t 7)).2
def bV (t:List UInt8):List DB:=(pV (po t 7)).1
theorem BH5 (t:List UInt8):gA R t = some (bV t,(bOK t,())):=by
 obtain ⟨x,h1,e1⟩:=A5f t 7 (by decide)
 obtain ⟨y,h2,e2⟩:=BR2 2 (by decide) h1
 have e1:mB R t 7 = _:=e1
 have e2:wL R x 2 = _:=e2
 rw [show gA R t = _ from call (As0 R L t),e1]
 simp only [Option.bind_some]
 rw [e2]
 simp only [Option.bind_some]
 rw [BU5 h2];rfl
theorem BM9 (t:List UInt8) (ht:t.length ≤ 1048576):∃ v,jA R t = some (v,(bOK t,())) ∧ (bOK t = true → v = bV t):=by
 obtain ⟨x,h1,e1⟩:=A5x t 7 (by decide) ht
 obtain ⟨y,h2,e2⟩:=A0M h1 2
 have e1:lS R t 7 = _:=e1
 have loop:∀ (c:Nat) {x:SR} {s:SO1} (acc:List DB),RS x s → acc.length + c ≤ 1000 → ∃ y,RS y (sB c s).2 ∧ wZ R L x acc (c:Int) = wZ R L y (acc ++ (sB c s).1) 0:=by
  intro c
  induction c with
  | zero=>intro x s acc h _;exact ⟨x,h,by show _ = wZ R L x (acc ++ []) 0;rw [List.append_nil];rfl⟩
  | succ c ih=>
   intro x s acc h hc
   obtain ⟨y1,k1,f1⟩:=AG4 h
   obtain ⟨y2,k2,f2⟩:=AG4 k1
   obtain ⟨y3,k3,f3⟩:=AG4 k2
   obtain ⟨z,k4,f4⟩:=ih (acc ++ [(sB1 s).1]) k3 (by rw [List.length_append];simp only [List.length_cons,List.length_nil];omega)
   refine ⟨z,k4,?_⟩
   rw [show wZ R L x acc ((c + 1:Nat):Int) = _ from round (by kernel_rfl) (bJ R L x acc ((c + 1:Nat):Int)),dT (show (0:Int) < ((c + 1:Nat):Int) by omega),f1,bM (by omega)]
   simp (disch:=omega) only [st,f2,f3]
   refine Eq.trans f4 ?_
   rw [List.append_assoc];rfl
 obtain ⟨n,hn⟩:=Int.eq_ofNat_of_zero_le (BT8 2 (by decide) (so t 7)).1
 have hb2:=(BT8 2 (by decide) (so t 7)).2
 obtain ⟨z,h3,e3⟩:=loop n [] h2 (by simp only [List.length_nil];omega)
 have hV:sV (so t 7) = sB n (sC 2 (so t 7)).2:=by unfold sV;rw [hn];rfl
 have hl:(sV (so t 7)).1.length ≤ 2:=by rw [hV,BA2];omega
 rw [← hV] at h3 e3
 obtain ⟨b1,b2⟩:=A4d (pso t 7)
 refine ⟨(sV (so t 7)).1,?_,fun h=>?_⟩
 ·rw [show jA R t = _ from call (Ap2 R L t),e1]
  simp only [Option.bind_some]
  rw [e2]
  simp only [Option.bind_some]
  rw [hn,e3,List.nil_append,show wZ R L z (sV (so t 7)).1 0 = _ from round (by kernel_rfl) (bJ R L z (sV (so t 7)).1 0),dF (show ¬ (0:Int) < 0 by omega),BU6 h3]
  simp only [cond_false,Option.bind_some]
  rw [Bj7 _ (by omega)]
  unfold bOK
  rw [b1]
  cases sE (sV (so t 7)).2 <;> rfl
 ·unfold bOK at h
  rw [b1] at h
  simp only [Bool.and_eq_true] at h
  exact (b2 h.1 h.2).symm
theorem Bh5 (t:List UInt8):(bV t).length ≤ 2:=by
 unfold bV pV
 rw [A5T]
 have:=(BF9 2 (by decide) (po t 7)).2
 have:=(BF9 2 (by decide) (po t 7)).1
 omega
end Go.Rf.S

end
section
namespace Go.Rf.S
set_option maxRecDepth 100000
def sOK (t:List UInt8):Bool:=pE (pZ (po t 140)).2 && (Aa9 (A9q (po t 140)) && AC6 (pZ (po t 140)).1)
def sE1 (t:List UInt8):DE:=A9q (po t 140)
def sRs (t:List UInt8):List DR:=(pZ (po t 140)).1
theorem Ae5 (b:Int):∀ (n:Nat) (o:LO),(pS b n o).1.length = n
 | 0,_=>rfl
 | n + 1,o=>by show (_ :: _:List Int).length = _;rw [List.length_cons,Ae5 b n]
theorem A6K:∀ (n:Nat) (o:SO1),(sS n o).1.length = n
 | 0,_=>rfl
 | n + 1,o=>by show (_ :: _:List Int).length = _;rw [List.length_cons,A6K n]
theorem BK1:nob.flatten.length = 0:=rfl
theorem Ae1 (v2:DE) (E:DE) (hk:E.1.length ≤ 1048576) (h1:E.2.1.1.length ≤ 4096) (hf:E.2.1.2.1.length + E.2.1.2.2.1.flatten.length ≤ 1048576) {n:Nat} (hn:n ≤ 1000):∀ (c i:Nat) {x:PR} {o:LO} (acc:List DR),i + c = n → RP x o → acc.length = i → (∀ r ∈ acc,r.2.1.length ≤ 1048576) →
  rX R L v2 x E acc (n:Int) (i:Int) = some (if (pE (pR c o).2 && (Aa9 E && AC6 (acc ++ (pR c o).1))) = true then (E,(acc ++ (pR c o).1,(true,()))) else (([],(([],([],([],()))),())),([],(false,()))))
 | 0,i,x,o,acc,hi,h,ha,hr=>by
  rw [show rX R L v2 x E acc (n:Int) (i:Int) = _ from round (by kernel_rfl) (AH1 R L v2 x E acc (n:Int) (i:Int)),AG7 (by omega),BU5 h]
  show _ = some (if (pE o && (Aa9 E && AC6 (acc ++ []))) = true then (E,(acc ++ [],(true,()))) else _)
  rw [List.append_nil]
  cases he:pE o with
  | false=>rfl
  | true=>
   simp only [cond_false,Option.bind_some,Bool.not_true]
   rw [Bg0 E hk h1 hf]
   cases Aa9 E with
   | false=>rfl
   | true=>
    simp only [cond_false,Option.bind_some,Bool.not_true]
    rw [Bg8]
    cases AC6 acc <;> rfl
 | c + 1,i,x,o,acc,hi,h,ha,hr=>by
  obtain ⟨y1,k1,e1⟩:=Ae3 h 19
  obtain ⟨y2,k2,e2⟩:=Ae3 k1 32
  obtain ⟨m,hm⟩:=Int.eq_ofNat_of_zero_le (BF9 32 (by decide) (pN 19 o).2).1
  have hm2:=(BF9 32 (by decide) (pN 19 o).2).2
  obtain ⟨y3,k3,e3⟩:=BX4 (b:=999999) (n:=m) (by omega) k2
  have e1':pR1 o = (((pN 19 o).1,((pS 999999 m (pN 32 (pN 19 o).2).2).1,())),(pS 999999 m (pN 32 (pN 19 o).2).2).2):=by unfold pR1;rw [hm];rfl
  have hl1:(pR1 o).1.2.1.length ≤ 1048576:=by rw [e1'];show (pS 999999 m _).1.length ≤ _;rw [Ae5];omega
  have k3:RP y3 (pR1 o).2:=by rw [e1'];exact k3
  have ih:=Ae1 v2 E hk h1 hf hn c (i + 1) (acc ++ [(pR1 o).1]) (by omega) k3 (by rw [List.length_append,ha];rfl) (fun r hr'=>by
   rcases List.mem_append.1 hr' with h | h
   ·exact hr r h
   ·rw [List.mem_singleton.1 h];exact hl1)
  rw [show rX R L v2 x E acc (n:Int) (i:Int) = _ from round (by kernel_rfl) (AH1 R L v2 x E acc (n:Int) (i:Int)),AE5 (by omega),e1,zB (by omega)]
  simp only [cond_true,Option.bind_some]
  rw [e2]
  simp only [Option.bind_some]
  rw [hm,e3]
  simp (disch:=omega) only [st]
  have hrec:((pN 19 o).1,((pS 999999 m (pN 32 (pN 19 o).2).2).1,())) = (pR1 o).1:=by rw [e1']
  rw [hrec,ih,List.append_assoc]
  rfl
theorem BZ0 (t:List UInt8):fN R t = some (if sOK t = true then (sE1 t,(sRs t,(true,()))) else (([],(([],([],([],()))),())),([],(false,())))):=by
 obtain ⟨x0,h0,e0⟩:=A5f t 140 (by decide)
 obtain ⟨x1,h1,e1⟩:=BX4 (b:=7) (n:=12) (by decide) h0
 obtain ⟨x2,h2,e2⟩:=BR2 12 (by decide) h1
 obtain ⟨x3,h3,e3⟩:=BX4 (b:=9999) (n:=11) (by decide) h2
 obtain ⟨x4,h4,e4⟩:=Ae3 h3 2
 obtain ⟨n,hn⟩:=Int.eq_ofNat_of_zero_le (BF9 2 (by decide) (pY (po t 140)).2).1
 have hn2:=(BF9 2 (by decide) (pY (po t 140)).2).2
 have e0:mB R t 140 = _:=e0
 have e1:xK R x0 12 0 7 = some ((pK (po t 140)).1,(x1,())):=e1
 have e2:wL R x1 12 = some ((pT (po t 140)).1,(x2,())):=e2
 have e3:xK R x2 11 0 9999 = some ((pY (po t 140)).1,(x3,())):=e3
 have e4:yO R x3 0 2 = some ((pN 2 (pY (po t 140)).2).1,(x4,())):=e4
 have h4:RP x4 (pN 2 (pY (po t 140)).2).2:=h4
 have hb2:=(BF9 12 (by decide) (pK (po t 140)).2)
 have hTl:(pT (po t 140)).1.length ≤ 12:=by unfold pT;rw [A5T];omega
 rw [show fN R t = _ from call (A08 R L t),e0]
 simp only [Option.bind_some]
 rw [e1]
 simp only [Option.bind_some]
 rw [e2]
 simp only [Option.bind_some]
 rw [e3]
 simp only [Option.bind_some]
 rw [e4]
 simp only [Option.bind_some]
 rw [hn]
 have hl:=Ae1 ([],(([],([],([],()))),())) (A9q (po t 140)) (by show (pS 9999 11 _).1.length ≤ _;rw [Ae5];decide) (by show (pS 7 12 _).1.length ≤ _;rw [Ae5];decide) (by
   show (pT (po t 140)).1.length + nob.flatten.length ≤ _
   rw [BK1];omega) (n:=n) (by omega) n 0 [] (by omega) h4 rfl (fun _ h=>by cases h)
 have hz:pZ (po t 140) = pR n (pN 2 (pY (po t 140)).2).2:=by unfold pZ;rw [hn];rfl
 rw [← hz,List.nil_append] at hl
 exact hl
theorem Az3 (v2:DE) (E:DE) (O:List DR) (v12:Int):∀ (c:Nat) {x:SR} {s:SO1} (k:Int) (acc:List Int),RS x s → acc.length + c ≤ 1000 → ∃ y,RS y (sS c s).2 ∧ vW R L v2 x E O v12 (k,(acc,())) (c:Int) = vW R L v2 y E O v12 (k,(acc ++ (sS c s).1,())) 0
 | 0,x,s,k,acc,h,_=>⟨x,h,by show _ = vW R L v2 x E O v12 (k,(acc ++ [],())) 0;rw [List.append_nil];rfl⟩
 | c + 1,x,s,k,acc,h,hc=>by
  obtain ⟨y1,k1,f1⟩:=AG4 h
  obtain ⟨z,k4,f4⟩:=Az3 v2 E O v12 c k (acc ++ [(sN s).1]) k1 (by rw [List.length_append];simp only [List.length_cons,List.length_nil];omega)
  refine ⟨z,k4,?_⟩
  rw [show vW R L v2 x E O v12 (k,(acc,())) ((c + 1:Nat):Int) = _ from round (by kernel_rfl) (AC9 R L v2 x E O v12 (k,(acc,())) ((c + 1:Nat):Int)),dT (show (0:Int) < ((c + 1:Nat):Int) by omega),f1,bM (by omega)]
  simp (disch:=omega) only [st]
  rw [f4,List.append_assoc];rfl
theorem A5e (v2:DE) (E:DE) (hk:E.1.length ≤ 1048576) (h1:E.2.1.1.length ≤ 4096):∀ (c:Nat) {x:SR} {s:SO1} (acc:List DR),RS x s → acc.length + c ≤ 1000 → (∀ r ∈ acc,r.2.1.length ≤ 1048576) →
  tL R L v2 x E acc (c:Int) = some (E,(acc ++ (sR c s).1,(sE (sR c s).2 && (Aa9 E && AC6 (acc ++ (sR c s).1)),())))
 | 0,x,s,acc,h,_,hr=>by
  show tL R L v2 x E acc ((0:Nat):Int) = some (E,(acc ++ [],(sE s && (Aa9 E && AC6 (acc ++ [])),())))
  rw [List.append_nil,show tL R L v2 x E acc ((0:Nat):Int) = _ from round (by kernel_rfl) (AD0 R L v2 x E acc ((0:Nat):Int)),dF (show ¬ (0:Int) < ((0:Nat):Int) by omega),BU6 h]
  simp only [cond_false,Option.bind_some]
  cases sE s with
  | false=>rfl
  | true=>
   simp only [cond_true]
   rw [Bm5 E hk h1]
   simp only [Option.bind_some]
   cases Aa9 E with
   | false=>rfl
   | true=>
    simp only [cond_true]
    rw [Bg9 acc (by omega) hr];rfl
 | c + 1,x,s,acc,h,hc,hr=>by
  obtain ⟨y1,k1,f1⟩:=AG4 h
  obtain ⟨y2,k2,f2⟩:=A0M k1 32
  obtain ⟨m,hm⟩:=Int.eq_ofNat_of_zero_le (BT8 32 (by decide) (sN s).2).1
  have hm2:=(BT8 32 (by decide) (sN s).2).2
  obtain ⟨y3,k3,f3⟩:=Az3 v2 E acc ((c + 1:Nat):Int) m (sN s).1 [] k2 (by simp only [List.length_nil];omega)
  have e1':sR1 s = (((sN s).1,((sS m (sC 32 (sN s).2).2).1,())),(sS m (sC 32 (sN s).2).2).2):=by unfold sR1;rw [hm];rfl
  have hl1:(sR1 s).1.2.1.length ≤ 1048576:=by rw [e1'];show (sS m _).1.length ≤ _;rw [A6K];omega
  have k3:RS y3 (sR1 s).2:=by rw [e1'];exact k3
  have ih:=A5e v2 E hk h1 c (acc ++ [(sR1 s).1]) k3 (by rw [List.length_append];simp only [List.length_cons,List.length_nil];omega) (fun r hr'=>by
   rcases List.mem_append.1 hr' with h | h
   ·exact hr r h
   ·rw [List.mem_singleton.1 h];exact hl1)
  rw [show tL R L v2 x E acc ((c + 1:Nat):Int) = _ from round (by kernel_rfl) (AD0 R L v2 x E acc ((c + 1:Nat):Int)),dT (show (0:Int) < ((c + 1:Nat):Int) by omega),f1]
  simp only [cond_true,Option.bind_some]
  rw [f2]
  simp only [Option.bind_some]
  rw [hm,f3,List.nil_append]
  have hrec:((sN s).1,((sS m (sC 32 (sN s).2).2).1,())) = (sR1 s).1:=by rw [e1']
  rw [hrec,show vW R L v2 y3 E acc ((c + 1:Nat):Int) (sR1 s).1 0 = _ from round (by kernel_rfl) (AC9 R L v2 y3 E acc ((c + 1:Nat):Int) (sR1 s).1 0),dF (show ¬ (0:Int) < 0 by omega),bM (by omega)]
  simp (disch:=omega) only [st]
  rw [ih,List.append_assoc];rfl
theorem A6V (v2:DE):∀ (c i:Nat) {x:SR} {s:SO1} (E:DE),i + c = 11 → RS x s → E.1.length = i → ∃ y,RS y (sS c s).2 ∧ yN R L v2 x E (i:Int) = yN R L v2 y (E.1 ++ (sS c s).1,E.2) 11
 | 0,i,x,s,E,hi,h,hE=>by
  have:i = 11:=by omega
  subst this
  exact ⟨x,h,by show _ = yN R L v2 x (E.1 ++ [],E.2) 11;rw [List.append_nil];rfl⟩
 | c + 1,i,x,s,E,hi,h,hE=>by
  obtain ⟨y1,k1,f1⟩:=AG4 h
  obtain ⟨z,k4,f4⟩:=A6V v2 c (i + 1) (E.1 ++ [(sN s).1],E.2) (by omega) k1 (by show (E.1 ++ [(sN s).1]).length = _;rw [List.length_append,hE];rfl)
  refine ⟨z,k4,?_⟩
  rw [show yN R L v2 x E (i:Int) = _ from round (by kernel_rfl) (AC2 R L v2 x E (i:Int)),dT (show (i:Int) < 11 by omega),f1,zB (by omega)]
  simp (disch:=omega) only [st]
  rw [f4,List.append_assoc];rfl
theorem A6F (v2:DE):∀ (c:Nat) {x:SR} {s:SO1} (E:DE),RS x s → E.2.1.2.1.length + c ≤ 1000 → ∃ y,RS y (sB c s).2 ∧ uA R L v2 x E (c:Int) = yN R L v2 y (E.1,((E.2.1.1,(E.2.1.2.1 ++ (sB c s).1,E.2.1.2.2)),E.2.2)) 0
 | 0,x,s,E,h,_=>by
  refine ⟨x,h,?_⟩
  show uA R L v2 x E ((0:Nat):Int) = yN R L v2 x (E.1,((E.2.1.1,(E.2.1.2.1 ++ [],E.2.1.2.2)),E.2.2)) 0
  rw [List.append_nil,show uA R L v2 x E ((0:Nat):Int) = _ from round (by kernel_rfl) (AC7 R L v2 x E ((0:Nat):Int)),dF (show ¬ (0:Int) < ((0:Nat):Int) by omega)];rfl
 | c + 1,x,s,E,h,hc=>by
  obtain ⟨y1,k1,f1⟩:=AG4 h
  obtain ⟨y2,k2,f2⟩:=AG4 k1
  obtain ⟨y3,k3,f3⟩:=AG4 k2
  obtain ⟨z,k4,f4⟩:=A6F v2 c (E.1,((E.2.1.1,(E.2.1.2.1 ++ [(sB1 s).1],E.2.1.2.2)),E.2.2)) k3 (by show (E.2.1.2.1 ++ [(sB1 s).1]).length + c ≤ _;rw [List.length_append];simp only [List.length_cons,List.length_nil];omega)
  refine ⟨z,k4,?_⟩
  rw [show uA R L v2 x E ((c + 1:Nat):Int) = _ from round (by kernel_rfl) (AC7 R L v2 x E ((c + 1:Nat):Int)),dT (show (0:Int) < ((c + 1:Nat):Int) by omega),f1,bM (by omega)]
  simp only [cond_true,Option.bind_some]
  rw [f2]
  simp only [Option.bind_some]
  rw [f3]
  simp (disch:=omega) only [st]
  refine Eq.trans f4 ?_
  show yN R L v2 z (E.1,((E.2.1.1,((E.2.1.2.1 ++ [(sB1 s).1]) ++ (sB c _).1,E.2.1.2.2)),E.2.2)) 0 = _
  rw [List.append_assoc];rfl
theorem A6Q (v2:DE):∀ (c i:Nat) {x:SR} {s:SO1} (E:DE),i + c = 12 → RS x s → E.2.1.1.length = i → ∃ y,RS y (sS c s).2 ∧ wD R L v2 x E (i:Int) = wD R L v2 y (E.1,((E.2.1.1 ++ (sS c s).1,E.2.1.2),E.2.2)) 12
 | 0,i,x,s,E,hi,h,hE=>by
  have:i = 12:=by omega
  subst this
  exact ⟨x,h,by show _ = wD R L v2 x (E.1,((E.2.1.1 ++ [],E.2.1.2),E.2.2)) 12;rw [List.append_nil];rfl⟩
 | c + 1,i,x,s,E,hi,h,hE=>by
  obtain ⟨y1,k1,f1⟩:=AG4 h
  obtain ⟨z,k4,f4⟩:=A6Q v2 c (i + 1) (E.1,((E.2.1.1 ++ [(sN s).1],E.2.1.2),E.2.2)) (by omega) k1 (by show (E.2.1.1 ++ [(sN s).1]).length = _;rw [List.length_append,hE];rfl)
  refine ⟨z,k4,?_⟩
  rw [show wD R L v2 x E (i:Int) = _ from round (by kernel_rfl) (AC8 R L v2 x E (i:Int)),dT (show (i:Int) < 12 by omega),f1,zB (by omega)]
  simp (disch:=omega) only [st]
  refine Eq.trans f4 ?_
  show wD R L v2 z (E.1,(((E.2.1.1 ++ [(sN s).1]) ++ (sS c _).1,E.2.1.2),E.2.2)) 12 = _
  rw [List.append_assoc];rfl
theorem Br6:AL5 R [] = some (([],([],(nob,()))),()):=by
 rw [show AL5 R [] = _ from call (A7Z R L [])]
 rfl
theorem BW1 (t:List UInt8) (ht:t.length ≤ 1048576):∃ e rs,hF R t = some (e,(rs,(sOK t,()))) ∧ (sOK t = true → e = sE1 t ∧ rs = sRs t):=by
 obtain ⟨x0,h0,f0⟩:=A5x t 140 (by decide) ht
 have f0:lS R t 140 = _:=f0
 obtain ⟨x1,h1,f1⟩:=A6Q ([],(([],([],([],()))),())) 12 0 ([],(([],([],(nob,()))),())) (by omega) h0 rfl
 have f1:wD R L ([],(([],([],([],()))),())) x0 ([],(([],([],(nob,()))),())) 0 = _:=f1
 obtain ⟨x2,h2,f2⟩:=A0M h1 12
 have f2:yR R x1 12 = some ((sC 12 (sK (so t 140)).2).1,(x2,())):=f2
 obtain ⟨n1,hn1⟩:=Int.eq_ofNat_of_zero_le (BT8 12 (by decide) (sK (so t 140)).2).1
 have hn1b:=(BT8 12 (by decide) (sK (so t 140)).2).2
 obtain ⟨x3,h3,f3⟩:=A6F ([],(([],([],([],()))),())) n1 ([],(((sK (so t 140)).1,([],(nob,()))),())) h2 (by show 0 + n1 ≤ _;omega)
 have hT:sT (so t 140) = sB n1 (sC 12 (sK (so t 140)).2).2:=by unfold sT;rw [hn1];rfl
 have h3:RS x3 (sT (so t 140)).2:=by rw [hT];exact h3
 have f3:uA R L ([],(([],([],([],()))),())) x2 ([],(((sK (so t 140)).1,([],(nob,()))),())) (n1:Int) = yN R L ([],(([],([],([],()))),())) x3 ([],(((sK (so t 140)).1,((sT (so t 140)).1,(nob,()))),())) 0:=by rw [hT];exact f3
 obtain ⟨x4,h4,f4⟩:=A6V ([],(([],([],([],()))),())) 11 0 ([],(((sK (so t 140)).1,((sT (so t 140)).1,(nob,()))),())) (by omega) h3 rfl
 have f4:yN R L ([],(([],([],([],()))),())) x3 ([],(((sK (so t 140)).1,((sT (so t 140)).1,(nob,()))),())) 0 = yN R L ([],(([],([],([],()))),())) x4 (As5 (so t 140)) 11:=f4
 obtain ⟨x5,h5,f5⟩:=A0M h4 2
 have f5:yR R x4 2 = some ((sC 2 (sY (so t 140)).2).1,(x5,())):=f5
 have h5:RS x5 (sC 2 (sY (so t 140)).2).2:=h5
 obtain ⟨n2,hn2⟩:=Int.eq_ofNat_of_zero_le (BT8 2 (by decide) (sY (so t 140)).2).1
 have hn2b:=(BT8 2 (by decide) (sY (so t 140)).2).2
 have hY:(As5 (so t 140)).1.length = 11:=A6K 11 _
 have hK:(As5 (so t 140)).2.1.1.length = 12:=A6K 12 _
 have f6:=A5e ([],(([],([],([],()))),())) (As5 (so t 140)) (by rw [hY];decide) (by rw [hK];decide) n2 [] h5 (by show 0 + n2 ≤ _;omega) (fun _ h=>by cases h)
 have hZ:sZ (so t 140) = sR n2 (sC 2 (sY (so t 140)).2).2:=by unfold sZ;rw [hn2];rfl
 rw [← hZ,List.nil_append] at f6
 obtain ⟨b1,b2⟩:=A7z BH8 Ba7 (pso t 140)
 refine ⟨As5 (so t 140),(sZ (so t 140)).1,?_,fun h=>?_⟩
 ·rw [show hF R t = _ from call (At0 R L t),f0,Br6]
  simp only [Option.bind_some]
  rw [f1,show wD R L ([],(([],([],([],()))),())) x1 (([]:List Int),(([] ++ (sS 12 (so t 140)).1,(([]:List DB),(nob,()))),())) 12 = _ from round (by kernel_rfl) (AC8 R L _ x1 _ 12),dF (show ¬ (12:Int) < 12 by omega),f2]
  simp only [cond_false,Option.bind_some]
  rw [hn1]
  refine Eq.trans f3 ?_
  rw [f4,show yN R L ([],(([],([],([],()))),())) x4 (As5 (so t 140)) 11 = _ from round (by kernel_rfl) (AC2 R L _ x4 _ 11),dF (show ¬ (11:Int) < 11 by omega),f5]
  simp only [cond_false,Option.bind_some]
  rw [hn2,f6]
  unfold sOK
  rw [b1]
 ·unfold sOK at h
  rw [b1] at h
  simp only [Bool.and_eq_true] at h
  obtain ⟨c1,c2⟩:=b2 h.1 h.2.1 h.2.2
  exact ⟨c1.symm,c2.symm⟩
end Go.Rf.S

end
section
namespace Go.Rf.S
set_option maxRecDepth 100000
def dU (x:yD):List (List UInt8):=(x.2.2.1.1.drop (16 * x.2.1.2.1.toNat)).take 16
theorem AS9 {x:yD} (h:SO x):(dU x).length = 16:=by
 unfold dU
 have:=h.dl;have:=h.sd
 rw [List.length_take,List.length_drop];omega
theorem Ai0 {x:yD} {s:List UInt8} (hs:s ∈ dU x):s ∈ x.2.2.1.1:=List.mem_of_mem_drop (List.mem_of_mem_take hs)
theorem Bj1 {x:yD} (h:SO x):mK R x = some (dU x,()):=by
 have h1:=h.dl;have h2:=h.sd
 obtain ⟨s,hs⟩:=Int.eq_ofNat_of_zero_le (show 0 ≤ x.2.1.2.1 by omega)
 rw [show mK R x = _ from call (Ac1 R L x),hs,zB (by omega),show IntKind.wrap .i64 (16 * ((s + 1:Nat):Int)) = ((16 * (s + 1):Nat):Int) by rw [zH (by omega) (by omega)];omega,show IntKind.wrap .i64 (16 * (s:Int)) = ((16 * s:Nat):Int) by rw [zH (by omega) (by omega)];omega]
 simp (disch:=omega) only [st]
 unfold dU
 rw [hs,Int.toNat_natCast,List.drop_take]
 congr 2
 rw [show 16 * (s + 1) - 16 * s = 16 by omega]
theorem BP9 (d:oG) (hu:d.2.1 = []) (i:Nat) (hi:i < d.1.length):dL R d (i:Int) = some (d.1.getD i [],()):=by
 obtain ⟨s,u,w⟩:=d
 have hu:u = []:=hu
 subst hu
 rw [show dL R (s,([],w)) (i:Int) = _ from call (A37 R L (s,([],w)) (i:Int))]
 show lG R L (i:Int) (s,([],w)) (IntKind.wrap .i64 (((0:Nat):Int) - 1)) = _
 rw [show IntKind.wrap .i64 (((0:Nat):Int) - 1) = -1 from rfl,show lG R L (i:Int) (s,([],w)) (-1) = _ from round (by kernel_rfl) (A00 R L (i:Int) (s,([],w)) (-1)),dF (show ¬ (0:Int) ≤ -1 by omega)]
 have hi:i < s.length:=hi
 simp (disch:=omega) only [st]
theorem BL4 {x:yD} (h:SO x) {i:Nat} (hi:i < 16):(dU x).getD i [] = x.2.2.1.1.getD (16 * x.2.1.2.1.toNat + i) []:=by
 have h1:=h.dl;have h2:=h.sd
 unfold dU
 rw [List.getD_eq_getElem?_getD,List.getElem?_take,if_pos hi,List.getElem?_drop,← List.getD_eq_getElem?_getD]
noncomputable def bk (x:yD) (i:Nat):List UInt8 × Bool:=opD x.1 2 (16 * x.2.1.2.1.toNat + 1 + i) x.2.1.1.toNat ((dU x).getD (i + 1) [])
noncomputable def ldB (x:yD):Nat → Nat → List (List DB) → Option (List (List DB))
 | 0,_,bs=>some bs
 | c + 1,i,bs=>if (bk x i).2 = true then (if bOK (bk x i).1 = true then ldB x c (i + 1) (bs.set i (bV (bk x i).1)) else none) else none
noncomputable def hd (x:yD):List UInt8 × Bool:=opD x.1 1 (16 * x.2.1.2.1.toNat) x.2.1.1.toNat ((dU x).getD 0 [])
abbrev DL:Type:=DE × (List DR × (Bool × Unit))
def no3:DL:=(([],(([],([],([],()))),())),([],(false,())))
def bW (e:DE) (bs:List (List DB)):DE:=(e.1,((e.2.1.1,(e.2.1.2.1,(bs,e.2.1.2.2.2))),e.2.2))
noncomputable def ldF (x:yD):DL:=
 if A3n (dU x) = x.2.1.2.2.2.2.2.2.1 then (if (hd x).2 = true then (if sOK (hd x).1 = true then (match ldB x 15 0 nob with
  | none=>no3
  | some bs=>(bW (sE1 (hd x).1) bs,(sRs (hd x).1,(Aa9 (bW (sE1 (hd x).1) bs),())))) else no3) else no3) else no3
theorem BO6 (l:List (List DB)) (i:Nat) (b:List DB) (hi:i < l.length):(l.set i b).flatten.length + (l.getD i []).length = l.flatten.length + b.length:=by
 induction l generalizing i with
 | nil=>exact absurd hi (Nat.not_lt_zero _)
 | cons a l ih=>
  cases i with
  | zero=>
   show (b :: l).flatten.length + a.length = (a :: l).flatten.length + b.length
   simp only [List.flatten_cons,List.length_append];omega
  | succ i=>
   have:=ih i (by simpa using hi)
   show (a :: l.set i b).flatten.length + (l.getD i []).length = (a :: l).flatten.length + b.length
   simp only [List.flatten_cons,List.length_append];omega
theorem Bs2 {x:yD} (h:SO x) (t:List UInt8) (hh:(sE1 t).2.1.2.1.length ≤ 12) (rs:List DR) (v2:DE):∀ (c i:Nat) (bs:List (List DB)),i + c = 15 → bs.length = 15 → bs.flatten.length ≤ 2 * i →
  sI R L x v2 (dU x) (16 * x.2.1.2.1) (bW (sE1 t) bs) rs 15 (i:Int) = some (match ldB x c i bs with | none=>no3 | some bs=>(bW (sE1 t) bs,(rs,(Aa9 (bW (sE1 t) bs),()))))
 | 0,i,bs,hi,hb,hf=>by
  have:i = 15:=by omega
  subst this
  rw [show sI R L x v2 (dU x) (16 * x.2.1.2.1) (bW (sE1 t) bs) rs 15 ((15:Nat):Int) = _ from round (by kernel_rfl) (bO R L x v2 (dU x) _ (bW (sE1 t) bs) rs 15 ((15:Nat):Int)),dF (show ¬ ((15:Nat):Int) < 15 by omega),Bg0 (bW (sE1 t) bs) (by show (pS 9999 11 _).1.length ≤ _;rw [Ae5];decide) (by show (pS 7 12 _).1.length ≤ _;rw [Ae5];decide) (by
   show (sE1 t).2.1.2.1.length + bs.flatten.length ≤ _;omega)]
  rfl
 | c + 1,i,bs,hi,hb,hf=>by
  have h1:=h.dl;have h2:=h.sd;have h3:=h.c0;have h4:=h.c1
  obtain ⟨s,hs⟩:=Int.eq_ofNat_of_zero_le (show 0 ≤ x.2.1.2.1 by omega)
  obtain ⟨C,hC⟩:=Int.eq_ofNat_of_zero_le h3
  have hsl:=AS9 h
  have hm:(dU x).getD (i + 1) [] ∈ x.2.2.1.1:=Ai0 (tD (by omega))
  have hml:=h.ds _ hm
  obtain ⟨o1,o2,o3⟩:=A01 (key:=x.1) (t:=(dU x).getD (i + 1) []) h.k (by omega) 2 (16 * s + 1 + i) C
  have hbk:bk x i = opD x.1 2 (16 * s + 1 + i) C ((dU x).getD (i + 1) []):=by unfold bk;rw [hs,hC];rfl
  rw [← hbk] at o1 o3
  have o1:jZ R x.1 2 ((16 * s + 1 + i:Nat):Int) (C:Int) ((dU x).getD (i + 1) []) = _:=o1
  have e1:IntKind.wrap .i64 (1 + (i:Int)) = ((i + 1:Nat):Int):=by rw [zH (by omega) (by omega)];omega
  have e2:IntKind.wrap .i64 (IntKind.wrap .i64 (16 * x.2.1.2.1 + 1) + (i:Int)) = ((16 * s + 1 + i:Nat):Int):=by
   rw [hs,zH (n:=16 * ((s:Nat):Int) + 1) (by omega) (by omega),zH (by omega) (by omega)];omega
  have ih:=Bs2 h t hh rs v2 c (i + 1) (bs.set i (bV (bk x i).1)) (by omega) (by rw [List.length_set];exact hb) (by
   have:=BO6 bs i (bV (bk x i).1) (by omega)
   have:=Bh5 (bk x i).1
   omega)
  rw [show sI R L x v2 (dU x) (16 * x.2.1.2.1) (bW (sE1 t) bs) rs 15 (i:Int) = _ from round (by kernel_rfl) (bO R L x v2 (dU x) _ (bW (sE1 t) bs) rs 15 (i:Int)),dT (show (i:Int) < 15 by omega),e1,e2,hC,zB (by omega)]
  simp (disch:=omega) only [st,o1,BH5]
  unfold ldB
  cases hb1:(bk x i).2 with
  | false=>rfl
  | true=>
   rw [if_pos rfl]
   cases hb2:bOK (bk x i).1 with
   | false=>rfl
   | true=>
    rw [if_pos rfl]
    have hlt:i < (bW (sE1 t) bs).2.1.2.2.1.length:=by show i < bs.length;omega
    simp (disch:=omega) only [st,Bool.not_true]
    exact ih
theorem Bs0 {x:yD} (h:SO x) (t:List UInt8) (rs:List DR) (v2:DE):∀ (c i:Nat) (bs:List (List DB)),i + c = 15 → bs.length = 15 →
  oU R L x v2 (dU x) (bW (sE1 t) bs) rs (i:Int) = some (match ldB x c i bs with | none=>no3 | some bs=>(bW (sE1 t) bs,(rs,(Aa9 (bW (sE1 t) bs),()))))
 | 0,i,bs,hi,hb=>by
  have:i = 15:=by omega
  subst this
  rw [show oU R L x v2 (dU x) (bW (sE1 t) bs) rs ((15:Nat):Int) = _ from round (by kernel_rfl) (AW3 R L x v2 (dU x) (bW (sE1 t) bs) rs ((15:Nat):Int)),dF (show ¬ ((15:Nat):Int) < 15 by omega),Bm5 (bW (sE1 t) bs) (by show (pS 9999 11 _).1.length ≤ _;rw [Ae5];decide) (by show (pS 7 12 _).1.length ≤ _;rw [Ae5];decide)]
  rfl
 | c + 1,i,bs,hi,hb=>by
  have h1:=h.dl;have h2:=h.sd;have h3:=h.c0;have h4:=h.c1
  obtain ⟨s,hs⟩:=Int.eq_ofNat_of_zero_le (show 0 ≤ x.2.1.2.1 by omega)
  obtain ⟨C,hC⟩:=Int.eq_ofNat_of_zero_le h3
  have hsl:=AS9 h
  have hm:(dU x).getD (i + 1) [] ∈ x.2.2.1.1:=Ai0 (tD (by omega))
  have hml:=h.ds _ hm
  obtain ⟨o1,o2,o3⟩:=A01 (key:=x.1) (t:=(dU x).getD (i + 1) []) h.k (by omega) 2 (16 * s + 1 + i) C
  have hbk:bk x i = opD x.1 2 (16 * s + 1 + i) C ((dU x).getD (i + 1) []):=by unfold bk;rw [hs,hC];rfl
  rw [← hbk] at o2 o3
  have o2:lT R x.1 2 ((16 * s + 1 + i:Nat):Int) (C:Int) ((dU x).getD (i + 1) []) = _:=o2
  have e1:IntKind.wrap .i64 (1 + (i:Int)) = ((i + 1:Nat):Int):=by rw [zH (by omega) (by omega)];omega
  have e2:IntKind.wrap .i64 (IntKind.wrap .i64 (IntKind.wrap .i64 (16 * x.2.1.2.1) + 1) + (i:Int)) = ((16 * s + 1 + i:Nat):Int):=by
   rw [hs,zH (n:=16 * ((s:Nat):Int)) (by omega) (by omega),zH (n:=16 * ((s:Nat):Int) + 1) (by omega) (by omega),zH (by omega) (by omega)];omega
  obtain ⟨v,b1,b2⟩:=BM9 (bk x i).1 (by omega)
  have ih:=Bs0 h t rs v2 c (i + 1) (bs.set i (bV (bk x i).1)) (by omega) (by rw [List.length_set];exact hb)
  rw [show oU R L x v2 (dU x) (bW (sE1 t) bs) rs (i:Int) = _ from round (by kernel_rfl) (AW3 R L x v2 (dU x) (bW (sE1 t) bs) rs (i:Int)),dT (show (i:Int) < 15 by omega),e1,e2,hC,zB (by omega)]
  simp (disch:=omega) only [st,o2,b1]
  unfold ldB
  cases hb1:(bk x i).2 with
  | false=>rfl
  | true=>
   rw [if_pos rfl]
   cases hb2:bOK (bk x i).1 with
   | false=>rfl
   | true=>
    rw [if_pos rfl,b2 hb2]
    have hlt:i < (bW (sE1 t) bs).2.1.2.2.1.length:=by show i < bs.length;omega
    simp (disch:=omega) only [st,Bool.not_true]
    exact ih
theorem BE7 {x:yD} (h:SO x):Sh (dU x):=fun s hs=>Nat.le_trans (h.ds s (Ai0 hs)) (by decide)
theorem A98 (t:List UInt8):(sE1 t).2.1.2.1.length ≤ 12:=by
 show (pT (po t 140)).1.length ≤ 12
 have hb2:=(BF9 12 (by decide) (pK (po t 140)).2)
 unfold pT;rw [A5T];omega
theorem Bs6 {x:yD} (h:SO x):jZ R x.1 1 (16 * x.2.1.2.1) x.2.1.1 ((dU x).getD 0 []) = some ((hd x).1,((hd x).2,())) ∧ lT R x.1 1 (16 * x.2.1.2.1) x.2.1.1 ((dU x).getD 0 []) = some ((hd x).1,((hd x).2,())) ∧ (hd x).1.length ≤ 1048576:=by
 have h2:=h.sd;have h3:=h.c0
 obtain ⟨s,hs⟩:=Int.eq_ofNat_of_zero_le (show 0 ≤ x.2.1.2.1 by omega)
 obtain ⟨C,hC⟩:=Int.eq_ofNat_of_zero_le h3
 have hsl:=AS9 h
 have hml:=h.ds _ (Ai0 (tD (d:=[]) (show 0 < (dU x).length by omega)))
 obtain ⟨o1,o2,o3⟩:=A01 (key:=x.1) (t:=(dU x).getD 0 []) h.k (by omega) 1 (16 * s) C
 have hbk:hd x = opD x.1 1 (16 * s) C ((dU x).getD 0 []):=by unfold hd;rw [hs,hC];rfl
 rw [← hbk] at o1 o2 o3
 rw [hs,hC,show 16 * ((s:Nat):Int) = ((16 * s:Nat):Int) by omega]
 exact ⟨o1,o2,by omega⟩
theorem Bk2 {x:yD} (h:SO x):kQ R x = some (ldF x):=by
 have hsl:=AS9 h
 have h2:=h.sd
 obtain ⟨o1,_,_⟩:=Bs6 h
 rw [show kQ R x = _ from call (Ao7 R L x),Bj1 h,zH (n:=16 * x.2.1.2.1) (by omega) (by omega)]
 simp only [Option.bind_some]
 rw [(BT3 hsl (BE7 h)).1]
 simp only [Option.bind_some,gV]
 unfold ldF
 by_cases hr:A3n (dU x) = x.2.1.2.2.2.2.2.2.1
 ·rw [dT hr,if_pos hr]
  simp (disch:=omega) only [st,Bool.not_true]
  rw [show (0:Int).toNat = 0 from rfl,o1]
  simp only [Option.bind_some]
  rw [BZ0]
  simp only [Option.bind_some]
  cases h1:(hd x).2 with
  | false=>rfl
  | true=>
   rw [if_pos rfl]
   cases h2:sOK (hd x).1 with
   | false=>rfl
   | true=>
    simp only [cond_false,Bool.not_true,if_true]
    exact Bs2 h (hd x).1 (A98 _) (sRs (hd x).1) _ 15 0 nob rfl rfl (by decide)
 ·rw [dF hr,if_neg hr];rfl
theorem Bj2 {x:yD} (h:SO x):AA1 R x = some (ldF x):=by
 have hsl:=AS9 h
 have h1:=h.dl;have h2:=h.sd
 obtain ⟨s,hs⟩:=Int.eq_ofNat_of_zero_le (show 0 ≤ x.2.1.2.1 by omega)
 obtain ⟨_,o1,o3⟩:=Bs6 h
 obtain ⟨e,rs,f1,f2⟩:=BW1 (hd x).1 o3
 have loop:∀ (n i:Nat),16 - i = n → i ≤ 16 → rD R L x ([],(([],([],([],()))),())) ((dU x).take i) (i:Int) = rD R L x ([],(([],([],([],()))),())) (dU x) 16:=by
  intro n
  induction n with
  | zero=>
   intro i hn hi
   have:i = 16:=by omega
   subst this
   rw [List.take_of_length_le (by omega)];rfl
  | succ n ih=>
   intro i hn hi
   have e2:IntKind.wrap .i64 (IntKind.wrap .i64 (16 * x.2.1.2.1) + (i:Int)) = ((16 * s + i:Nat):Int):=by
    rw [hs,zH (n:=16 * ((s:Nat):Int)) (by omega) (by omega),zH (by omega) (by omega)];omega
   have hg:(dU x).getD i [] = x.2.2.1.1.getD (16 * s + i) []:=by rw [BL4 h (by omega),hs];rfl
   rw [show rD R L x ([],(([],([],([],()))),())) ((dU x).take i) (i:Int) = _ from round (by kernel_rfl) (AT0 R L x _ ((dU x).take i) (i:Int)),dT (show (i:Int) < 16 by omega),e2,BP9 x.2.2.1 h.u _ (by omega),zB (by omega)]
   have hl:((dU x).take i).length = i:=by rw [List.length_take];omega
   simp (disch:=omega) only [st,hl]
   rw [← ih (i + 1) (by omega) (by omega),← hg,List.take_add_one,List.getD_eq_getElem?_getD,List.getElem?_eq_getElem (by omega)]
   rfl
 have h0:=loop 16 0 rfl (by decide)
 rw [List.take_zero] at h0
 have h0:rD R L x ([],(([],([],([],()))),())) [] 0 = _:=h0
 rw [show AA1 R x = _ from call (A4B R L x),h0,show rD R L x ([],(([],([],([],()))),())) (dU x) 16 = _ from round (by kernel_rfl) (AT0 R L x _ (dU x) 16),dF (show ¬ (16:Int) < 16 by omega),zH (n:=16 * x.2.1.2.1) (by omega) (by omega)]
 simp only [cond_false]
 rw [(BT3 hsl (BE7 h)).2]
 simp only [Option.bind_some,gV]
 unfold ldF
 by_cases hr:A3n (dU x) = x.2.1.2.2.2.2.2.2.1
 ·rw [dT hr,if_pos hr]
  simp (disch:=omega) only [st,Bool.not_true]
  rw [show (0:Int).toNat = 0 from rfl,o1]
  simp only [Option.bind_some]
  rw [f1]
  simp only [Option.bind_some]
  cases h1:(hd x).2 with
  | false=>rfl
  | true=>
   rw [if_pos rfl]
   cases h2:sOK (hd x).1 with
   | false=>rfl
   | true=>
    obtain ⟨rfl,rfl⟩:=f2 h2
    simp only [cond_false,Bool.not_true,if_true]
    exact Bs0 h (hd x).1 (sRs (hd x).1) _ 15 0 nob rfl rfl
 ·rw [dF hr,if_neg hr];rfl
def Bn5 (S:List (List UInt8)):Nat → Nat → List UInt8 → List UInt8
 | 0,_,t=>t
 | c + 1,n,t=>Bn5 S c (n + 1) (Ak9 t (S.getD (32 + n % 8) []))
def whole (x:yD):Bool:=decide (Bn5 x.2.2.1.1 (x.2.1.2.2.1.toNat - x.2.1.1.toNat) (x.2.1.1.toNat + 1) x.2.1.2.2.2.2.1 = x.2.1.2.2.2.2.2.1)
theorem Bk0 {x:yD} (h:SO x) (N:Nat) (hN:x.2.1.2.2.1 = (N:Int)):∀ (c n:Nat) (t:List UInt8),n + c = N + 1 → t.length ≤ 1048576 → uW R L x t (n:Int) = some (decide (Bn5 x.2.2.1.1 c n t = x.2.1.2.2.2.2.2.1),())
 | 0,n,t,hn,ht=>by
  rw [show uW R L x t (n:Int) = _ from round (by kernel_rfl) (eS R L x t (n:Int)),hN,dF (show ¬ (n:Int) ≤ (N:Int) by omega),gV];rfl
 | c + 1,n,t,hn,ht=>by
  have h1:=h.dl;have h2:=h.n2
  rw [hN] at h2
  have e1:jG R (n:Int) = some (((32 + n % 8:Nat):Int),()):=by
   rw [show jG R (n:Int) = _ from call (Am2 R L (n:Int)),show Int.tmod (n:Int) 8 = ((n % 8:Nat):Int) from rfl,zH (by omega) (by omega)]
   congr 2
  have hg:(x.2.2.1.1.getD (32 + n % 8) []).length ≤ 1048576:=Nat.le_trans (h.ds _ (tD (by omega))) (by decide)
  have ch:=(BC9 (a:=t) (b:=x.2.2.1.1.getD (32 + n % 8) []) ht hg).1
  have ih:=Bk0 h N hN c (n + 1) (Ak9 t (x.2.2.1.1.getD (32 + n % 8) [])) (by omega) (by unfold Ak9;rw [A0H];decide)
  rw [show uW R L x t (n:Int) = _ from round (by kernel_rfl) (eS R L x t (n:Int)),hN,dT (show (n:Int) ≤ (N:Int) by omega),e1,zB (by omega)]
  simp (disch:=omega) only [st,ch,ih]
  rfl
theorem Bi5 {x:yD} (h:SO x) (N:Nat) (hN:x.2.1.2.2.1 = (N:Int)):∀ (c n:Nat) (t:List UInt8) (acc:List (List UInt8)),n + c = N + 1 → t.length ≤ 1048576 → acc.length + c ≤ 1000 → ∃ l,mV R L x acc t (n:Int) = some (l,(decide (Bn5 x.2.2.1.1 c n t = x.2.1.2.2.2.2.2.1),()))
 | 0,n,t,acc,hn,ht,_=>by
  rw [show mV R L x acc t (n:Int) = _ from round (by kernel_rfl) (Ag6 R L x acc t (n:Int)),hN,dF (show ¬ (n:Int) ≤ (N:Int) by omega),gV]
  exact ⟨_,rfl⟩
 | c + 1,n,t,acc,hn,ht,ha=>by
  have h1:=h.dl;have h2:=h.n2
  rw [hN] at h2
  have e1:IntKind.wrap .i64 (32 + Int.tmod (n:Int) 8) = ((32 + n % 8:Nat):Int):=by
   rw [show Int.tmod (n:Int) 8 = ((n % 8:Nat):Int) from rfl,zH (by omega) (by omega)];omega
  have hg:(x.2.2.1.1.getD (32 + n % 8) []).length ≤ 1048576:=Nat.le_trans (h.ds _ (tD (by omega))) (by decide)
  have ch:=(BC9 (a:=t) (b:=x.2.2.1.1.getD (32 + n % 8) []) ht hg).2
  obtain ⟨l,ih⟩:=Bi5 h N hN c (n + 1) (Ak9 t (x.2.2.1.1.getD (32 + n % 8) [])) (acc ++ [x.2.2.1.1.getD (32 + n % 8) []]) (by omega) (by unfold Ak9;rw [A0H];decide) (by rw [List.length_append];simp only [List.length_cons,List.length_nil];omega)
  refine ⟨l,?_⟩
  rw [show mV R L x acc t (n:Int) = _ from round (by kernel_rfl) (Ag6 R L x acc t (n:Int)),hN,dT (show (n:Int) ≤ (N:Int) by omega),e1,zB (by omega)]
  simp only [cond_true]
  rw [BP9 x.2.2.1 h.u _ (by omega)]
  simp (disch:=omega) only [st,ch,ih]
  rfl
theorem A9c {x:yD} (h:SO x):mP R x = some (whole x,()) ∧ ∃ l,AI6 R x = some (l,(whole x,())):=by
 have h0:=h.n0;have h1:=h.c0;have h2:=h.n1;have h3:=h.c1
 obtain ⟨C,hC⟩:=Int.eq_ofNat_of_zero_le h1
 obtain ⟨N,hN⟩:=Int.eq_ofNat_of_zero_le (show 0 ≤ x.2.1.2.2.1 by omega)
 unfold whole
 rw [hC,hN,Int.toNat_natCast,Int.toNat_natCast]
 have ht:x.2.1.2.2.2.2.1.length ≤ 1048576:=by rw [h.t1];decide
 constructor
 ·rw [show mP R x = _ from call (AZ0 R L x),hC,zB (by omega)]
  exact Bk0 h N hN (N - C) (C + 1) _ (by omega) ht
 ·obtain ⟨l,e⟩:=Bi5 h N hN (N - C) (C + 1) x.2.1.2.2.2.2.1 [] (by omega) ht (by simp only [List.length_nil];omega)
  refine ⟨l,?_⟩
  rw [show AI6 R x = _ from call (A65 R L x),hC,zB (by omega)]
  exact e
end Go.Rf.S

end
section
namespace Go.Rf.S
set_option maxRecDepth 100000
noncomputable def Bm6 (x:yD):Bool:=(ldF x).2.2.1 && whole x
def Bj9 (x:yD):yD:=(x.1,(x.2.1,(x.2.2.1,(false,(true,x.2.2.2.2.2)))))
def upR (x:yD):yD:=(x.1,((x.2.1.1,(x.2.1.2.1,(x.2.1.2.2.1,(x.2.1.2.2.2.1 + 1,x.2.1.2.2.2.2)))),(x.2.2.1,(true,x.2.2.2.2))))
noncomputable def A55 (x:yD):yD:=
 if gX x = false then noS else if x.2.2.2.2.1 = true then x else if x.2.2.2.1 = true then x else if x.2.1.2.2.2.1 = 1000000 then x else if Bm6 x = true then upR x else Bj9 x
noncomputable def BW8 (x:yD):Int:=
 if gX x = false then 1 else if x.2.2.2.2.1 = true then 18 else if x.2.2.2.1 = true then 17 else if x.2.1.2.2.2.1 = 1000000 then 7 else if Bm6 x = true then 0 else 10
theorem A6T {x:yD} (h:SO x):oM R x = some (Bj9 x,()):=by
 rw [show oM R x = _ from call (Ah6 R L x),Bk7 h];rfl
theorem Bp3 (x:yD):dJ R x = some (A55 x,(BW8 x,())):=by
 rw [show dJ R x = _ from call (A3k R L x),A5P]
 unfold A55 BW8
 cases hs:gX x with
 | false=>rfl
 | true=>
  have h:=SO.of hs
  simp only [Option.bind_some,Bool.not_true,cond_false]
  rw [Bk7 h,if_neg (show ¬ true = false by decide),if_neg (show ¬ true = false by decide)]
  cases h1:x.2.2.2.2.1 with
  | true=>rfl
  | false=>
   simp only [cond_false]
   cases h2:x.2.2.2.1 with
   | true=>rfl
   | false=>
    simp only [cond_false]
    by_cases h3:x.2.1.2.2.2.1 = 1000000
    ·rw [vK,dT h3,if_pos h3,if_pos h3];rfl
    ·rw [vK,dF h3,if_neg h3,if_neg h3,Bk2 h]
     simp only [cond_false,Option.bind_some,Bool.false_eq_true,if_false]
     unfold Bm6
     cases h4:(ldF x).2.2.1 with
     | false=>
      simp only [Bool.not_false,cond_true,Bool.false_and,Bool.false_eq_true,if_false]
      rw [A6T h];rfl
     | true=>
      simp only [Bool.not_true,cond_false,Bool.true_and]
      rw [(A9c h).1]
      simp only [Option.bind_some]
      cases h5:whole x with
      | false=>
       simp only [Bool.not_false,cond_true,Bool.false_eq_true,if_false]
       rw [A6T h];rfl
      | true=>
       have:=h.b0;have:=h.b1
       simp only [Bool.not_true,cond_false,if_true,Option.bind_some]
       rw [zH (by omega) (by omega)]
       rfl
theorem Bh0 {x:yD} (h:SO x) (hs:gX x = true):gD R x = some (A55 x,(BW8 x,())):=by
 rw [show gD R x = _ from call (Ar8 R L x)]
 unfold A55 BW8
 rw [hs,if_neg (show ¬ true = false by decide),if_neg (show ¬ true = false by decide)]
 cases h1:x.2.2.2.2.1 with
 | true=>rfl
 | false=>
  simp only [cond_false]
  cases h2:x.2.2.2.1 with
  | true=>rfl
  | false=>
   simp only [cond_false]
   by_cases h3:x.2.1.2.2.2.1 = 1000000
   ·rw [vK,dT h3,if_pos h3,if_pos h3];rfl
   ·obtain ⟨l,e⟩:=(A9c h).2
    rw [vK,dF h3,if_neg h3,if_neg h3,Bj2 h]
    simp only [cond_false,Option.bind_some,Bool.false_eq_true,if_false]
    rw [e,show aU R x = _ from call (A4q R L x)]
    simp only [Option.bind_some]
    unfold Bm6
    cases h4:(ldF x).2.2.1 with
    | false=>rfl
    | true=>
     simp only [Bool.not_true,cond_false,Bool.true_and]
     cases h5:whole x with
     | false=>rfl
     | true=>
      have:=h.b0;have:=h.b1
      simp only [Bool.not_true,cond_false,if_true]
      rw [zH (by omega) (by omega)]
      rfl
theorem BH4 {x:yD} (hs:gX x = true):(A55 x).2.2.1 = x.2.2.1:=by
 unfold A55
 rw [hs,if_neg (show ¬ true = false by decide)]
 split
 ·rfl
 ·split
  ·rfl
  ·split
   ·rfl
   ·split <;> rfl
theorem Bo9 (x:yD):aR R x = some (A55 x,(BW8 x,())):=by
 rw [show aR R x = _ from call (A5H R L x),A4V]
 cases hs:gX x with
 | false=>unfold A55 BW8;rw [hs];rfl
 | true=>
  have h:=SO.of hs
  simp only [Option.bind_some,Bool.not_true,cond_false]
  rw [Bh0 h hs]
  simp only [Option.bind_some]
  rw [Bp4 (x:=A55 x) (by rw [BH4 hs];exact h.dw)];rfl
theorem BM0 {x:yD} (h2:cnt tC x ≤ 1048576):cnt tC (A55 x) ≤ 1048576:=by
 unfold A55
 split
 ·decide
 ·split
  ·exact h2
  ·split
   ·exact h2
   ·split
    ·exact h2
    ·split <;> exact h2
theorem law_Recover (x:yD) (hx:Ak0 tC x):kY R x = some (true,()):=by
 rw [show kY R x = _ from call (AV9 R L x),BL6 x 1048576 (by decide) (by decide) hx]
 by_cases h2:cnt tC x ≤ 1048576
 ·rw [Ar7 (by omega)]
  obtain ⟨k1,x',b1,m1,_⟩:=Bt0 x 1 h2 (by decide)
  have m1:qD R x 1 = _:=m1
  have e1:=Bo9 x
  have e2:=Bp3 x
  have hW:=BM0 h2
  obtain ⟨k4,W',_,m4,m5⟩:=Bt0 (A55 x) 1 hW (by decide)
  have m4:qD R (A55 x) 1 = _:=m4
  have m5:oC R W' 1 = _:=m5
  generalize A55 x = W at *
  generalize BW8 x = C at *
  simp (disch:=omega) only [st,dF,BG7 x h2,e1,e2,A5o W hW,A5o x h2,m1,m4,m5,Bool.not_true,Bool.not_false]
 ·rw [AE2 (by omega)];rfl
end Go.Rf.S

end
