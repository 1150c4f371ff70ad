/- An interpreter of the code over plain data, proved right against the machine: part 2. No condition. -/
import Derived.Test.YtcikhcfofnlegaaGreatRlA
import Derived.Laws.AppendOwn
import Derived.Laws.Tables
import Derived.Great.BuildSlice
import Derived.Tactics
set_option linter.unusedVariables false
set_option linter.unusedSimpArgs false
section
namespace Go.Rf
set_option linter.unusedSectionVars false
variable [T:Laid]
section
variable {P:Program} {H:Nat → Option (List Value)} {N:Nat} {g g' σ:yB} {V V':Nat → Option Value} {w w':World} {S S':Nat → Prop} {β β':Key → Option Nat} {a:Act} {o:Oper}
variable {E:Env} {gv:yB} {us:List Up}
theorem xS {n d:Nat} (h:opIn n o = true) (ho:o.dst = some d):d < n:=by
 unfold opIn at h;rw [ho] at h
 simp only [Bool.and_eq_true] at h
 simpa [Nat.blt_eq] using h.1
theorem Rel.land {g1:yB} {V1:Nat → Option Value} {n d:Nat} {e:Dat} {val:Value} (h:Rel H N g1 V1 w S β) (hn:(g1 n).sv = .dat e) (hN:N ≤ n) (hval:V1 n = some val)
  (hg:∀ i,i < N → g1 i = g i) (hD:yK N g) (hV:∀ i,i < N → V1 i = V i) (hd:d < N):Rel H N (g.up (.put d (.dat e))) (upd V d val) w S (Rf.rekey β [n] [d]):=by
 obtain ⟨c,hv,hc⟩:=h.dat hn
 have h1:Rel H N (g1.up (.put n .dead)) V1 w S β:=h.kill fun _ _=>rfl
 refine h1.finish (V1:=V1) (fun i hi=>?_) hD hV hd (h1.sane.rekey _ _) (fun b hb=>⟨hb,rfl⟩) (fun j s b hj ha hb=>⟨?_,rfl⟩) ⟨c,oZ hv,?_⟩
 ·rw [qX (by omega)];exact hg i hi
 ·have hjn:j ≠ n:=fun e'=>by subst e';exact ha (by rw [uE])
  rw [wZ (yF hj) (yF hjn)];exact hb
 ·rw [hval] at hc
  simp only [upd,if_true,Option.some.injEq] at hc ⊢
  exact hc
theorem fN {n i:Nat} {d:Dat} (h:i ≠ n):upN g n d i = g i:=qX h
theorem fS {n:Nat} {d:Dat}:(upN g n d n).sv = .dat d:=by rw [upN,uE]
theorem eN {mv:Bool} {t:Option Ty} {x:Operand} {d:Dat} {us:List Up} (ht:take g mv t x (sv g x) = some (d,us)):∀ u ∈ us,(g u.slot).sv ≠ .dead:=by
 cases hv:sv g x with
 | dead=>rw [hv] at ht;simp [take] at ht
 | und=>rw [hv] at ht;simp [take] at ht
 | unk=>rw [hv] at ht;simp [take] at ht
 | tup d=>rw [hv] at ht;simp [take] at ht
 | adr _ _ _ _=>rw [hv] at ht;simp [take] at ht
 | nils=>
  rw [hv] at ht
  simp only [take] at ht
  split at ht
  ·simp only [Option.some.injEq,Prod.mk.injEq] at ht;rw [← ht.2];simp
  ·cases ht
 | clo f rs=>
  rw [hv] at ht
  cases rs with
  | nil=>simp only [take,Option.some.injEq,Prod.mk.injEq] at ht;rw [← ht.2];simp
  | cons a rs=>simp [take] at ht
 | dat e=>
  rw [hv] at ht
  simp only [take] at ht
  split at ht
  ·simp only [Option.some.injEq,Prod.mk.injEq] at ht;rw [← ht.2];simp
  ·split at ht
   ·split at ht
    ·rename_i s
     simp only [Option.some.injEq,Prod.mk.injEq] at ht;rw [← ht.2]
     have:(g s).sv = .dat e:=hv
     simp [Up.slot,this]
    ·cases ht
   ·cases ht
 | als r p c s=>
  rw [hv] at ht
  simp only [take] at ht
  split at ht
  ·split at ht
   ·rename_i e he
    split at ht
    ·split at ht
     ·simp only [Option.some.injEq,Prod.mk.injEq] at ht;rw [← ht.2];simp
     ·split at ht
      ·split at ht <;> simp only [Option.some.injEq,Prod.mk.injEq] at ht <;> rw [← ht.2] <;> simp [Up.slot,he]
      ·cases ht
    ·cases ht
   ·cases ht
  ·cases ht
 | pend r p c s u e=>
  rw [hv] at ht
  simp only [take] at ht
  split at ht
  ·rename_i j
   split at ht
   ·split at ht
    ·rename_i e' he
     simp only [Option.some.injEq,Prod.mk.injEq] at ht;rw [← ht.2]
     have:(g j).sv = _:=hv
     simp [Up.slot,he,this]
    ·cases ht
   ·cases ht
  ·cases ht
theorem Bb2 {mv:Bool} {t:Option Ty} {x:Operand} {d:Dat} {dd:Nat} (hc:Ctx P H S β a w o g) (hs:Sub gv g) (ht:take gv mv t x (sv gv x) = some (d,us)) (ho:o.dst = some dd)
  (hr:∀ v,a.eval x = v → (execOp a.eval o).run P w = .ok (.value v) w):yM P H S β a w o (g.ups (us ++ [.put dd (.dat d)])):=by
 obtain ⟨ht',_⟩:=bZ hs ht
 obtain ⟨S1,β1,c,h1,h2,h3,h4⟩:=eU hc.rel ht' (n:=a.tmps.size) (hc.dead _ (Nat.le_refl _)) (Nat.le_refl _)
 intro K Q hK
 have hd:=xS hc.opIn ho
 have hD:yK a.tmps.size (g.ups us):=hc.dead.ups fun u hu=>hc.dead.lt (eN ht' u hu)
 refine tX (hr _ (zJ h3)) (hK _ _ S1 (rekey β1 [a.tmps.size] [dd]) vC yW ?_ (h2.trans (.rekey _ _)))
 rw [ho,uF hd,xB]
 exact h1.land fS (Nat.le_refl _) (by simp [upd]) (fun i hi=>fN (by omega)) hD (fun i hi=>by simp only [upd];rw [if_neg (by omega)]) hd
theorem A9R {d r c s:Nat} {p:List PS} {v:SV} {val:Value} (h0:r < N) (h1:c ≤ (g r).c) (h2:s ≤ (g r).s) (h:okA g r c s = true → Bp8 g V w r p (some val)):
  pU H N (g.up (.put d v)) (upd V d val) w S β d (.als r p c s):=by
 refine ⟨h0,?_⟩
 by_cases e:r = d
 ·subst e
  refine ⟨by rw [uE];simp;omega,by rw [uE];simp;omega,fun ok=>?_⟩
  have:=(AC6.1 ok).2
  rw [uE] at this;simp at this;omega
 ·refine ⟨by rw [qX e];exact h1,by rw [qX e];exact h2,fun ok dr hdr=>?_⟩
  rw [qX e] at hdr
  rw [Sub.okA (qX e)] at ok
  obtain ⟨cr,d',L,c',k1,k⟩:=h ok dr hdr
  refine ⟨cr,d',L,c',by simp only [upd];rw [if_neg e];exact k1,?_⟩
  simpa [upd] using k
theorem A39 {d r c s:Nat} {p:List PS} {v:SV} {val:Value} (h0:r < N) (h1:c ≤ (g r).c) (h2:s ≤ (g r).s) (h:okB g r p c s = true → Bo9 g V w r p (some val)):
  pU H N (g.up (.put d v)) (upd V d val) w S β d (.adr r p c s):=by
 refine ⟨h0,?_⟩
 by_cases e:r = d
 ·subst e
  refine ⟨by rw [uE];simp;omega,by rw [uE];simp;omega,fun ok=>?_⟩
  have:=(dA.1 ok).1
  rw [uE] at this;simp at this;omega
 ·refine ⟨by rw [qX e];exact h1,by rw [qX e];exact h2,fun ok dr hdr=>?_⟩
  rw [qX e] at hdr
  rw [Sub.okB (qX e)] at ok
  obtain ⟨cr,t,b,o,k1,k⟩:=h ok dr hdr
  refine ⟨cr,t,b,o,by simp only [upd];rw [if_neg e];exact k1,?_⟩
  simpa [upd] using k
theorem A4c {d:Nat} {f:FuncId} {rs:List (Nat × Nat)} {v:SV} {val:Value} (h1:∀ x ∈ rs,x.1 < N ∧ x.2 ≤ (g x.1).s) (h:(∀ x ∈ rs,(g x.1).s = x.2) → Bu3 V f rs (some val)):
  pU H N (g.up (.put d v)) (upd V d val) w S β d (.clo f rs):=by
 have hmem:∀ x ∈ rs,x.2 ≤ ((g.up (.put d v)) x.1).s ∧ (((g.up (.put d v)) x.1).s = x.2 → x.1 ≠ d ∧ (g x.1).s = x.2):=fun x hx=>by
  have:=(h1 x hx).2
  by_cases e:x.1 = d
  ·rw [e,uE]
   rw [e] at this
   simp only
   exact ⟨by omega,fun h=>by omega⟩
  ·rw [qX e];exact ⟨this,fun h=>⟨e,h⟩⟩
 refine ⟨fun x hx=>⟨(h1 x hx).1,(hmem x hx).1⟩,fun hall vs hvs=>?_⟩
 have:(upd V d val) d = some val:=by simp [upd]
 rw [this]
 refine h (fun x hx=>((hmem x hx).2 (hall x hx)).2) vs ?_
 rw [← hvs]
 refine List.map_congr_left fun x hx=>?_
 simp only [upd];rw [if_neg ((hmem x hx).2 (hall x hx)).1]
theorem yK.root (hD:yK N g) {r:Nat} {e:Dat} (he:(g r).sv = .dat e):r < N:=hD.lt (by rw [he];simp)
theorem A2r {d r:Nat} {p:List PS} {v:SV} {val:Value} {e dd:Dat} {cr c:List Value} {L:Loc} (hr:r < N) (he:(g r).sv = .dat e) (hg:xA p e.t e.f e.x = some dd) (hn:dd.f.base ≠ .gone) (hb:inB p e.t e.x)
  (hV:V r = some (yA e.t cr)) (hl:cr.length = e.t.size) (hw:uH w e.t (.reg cr) p = some (dd.t,L)) (hc:zF w dd.t.size L = some c) (hv:val = yA dd.t c):
  pU H N (g.up (.put d v)) (upd V d val) w S β d (AX4 g (r,p)):=by
 refine A9R hr (Nat.le_refl _) (Nat.le_refl _) fun _ dr hdr=>?_
 rw [he] at hdr
 simp only [SV.dat.injEq] at hdr
 subst hdr
 exact ⟨cr,dd,L,c,hV,hl,hg,hn,hb,hw,hc,by rw [hv]⟩
theorem AX9 {k:Key} {t:Ty} {f:Fl} {y:(Ty.ptr t).D} {c:List Value} (hf:f.base ≠ .gone) (h:zP S β H w k (.ptr t) f y c):∃ b,c = [.pointer (some ⟨b,0,none⟩)]:=by
 simp only [zP] at h
 replace h:=h.2
 cases hb:f.base with
 | own e=>rw [hb] at h;obtain ⟨b,cs,rfl,_⟩:=h;exact ⟨b,rfl⟩
 | gone=>exact absurd hb hf
 | _=>rw [hb] at h;simp only [Rd] at h;obtain ⟨b,cs,rfl,_⟩:=h;exact ⟨b,rfl⟩
theorem Aq8 {x:Operand} {ad:Addr} (ho:o.op = .nilCheck x) (hx:a.eval x = .pointer (some ad)):(execOp a.eval o).run P w = .ok (.value (.pointer (some ad))) w:=by
 simp [execOp,ho,hx]
theorem A6H {x:Operand} (ho:o.op = .move x ∨ o.op = .assign x):(execOp a.eval o).run P w = .ok (.value (a.eval x)) w:=by
 rcases ho with ho | ho <;> simp [execOp,ho]
theorem A6Z {i r c s d:Nat} {p:List PS} {val:Value} (hc:Ctx P H S β a w o g) (hi:(g i).sv = .als r p c s) (hv:oR a i = some val) (ho:o.dst = some d)
  (hr:(execOp a.eval o).run P w = .ok (.value val) w):yM P H S β a w o (g.ups [.put d (.als r p c s)]):=by
 have hss:=hc.rel.slots i
 rw [hi] at hss
 obtain ⟨h0,h1,h2,h3⟩:=hss
 exact AZ8 hc.rel hc.dead ho (xS hc.opIn ho) hr (A9R h0 h1 h2 (by rw [hv] at h3;exact h3))
theorem A1G {i r c s d:Nat} {p:List PS} {val:Value} (hc:Ctx P H S β a w o g) (hi:(g i).sv = .adr r p c s) (hv:oR a i = some val) (ho:o.dst = some d)
  (hr:(execOp a.eval o).run P w = .ok (.value val) w):yM P H S β a w o (g.ups [.put d (.adr r p c s)]):=by
 have hss:=hc.rel.slots i
 rw [hi] at hss
 obtain ⟨h0,h1,h2,h3⟩:=hss
 exact AZ8 hc.rel hc.dead ho (xS hc.opIn ho) hr (A39 h0 h1 h2 (by rw [hv] at h3;exact h3))
theorem lU {s:Nat} (hs:s < a.tmps.size):oR a s = some (a.eval (.tmp s)):=by
 simp [oR,Act.eval,hs]
theorem Ay1 {s d:Nat} {e:Dat} {val:Value} (hc:Ctx P H S β a w o g) (hs:(g s).sv = .dat e) (hn:e.f.base ≠ .gone) (hv:oR a s = some val) (ho:o.dst = some d)
  (hr:(execOp a.eval o).run P w = .ok (.value val) w):yM P H S β a w o (g.ups [.put d (AX4 g (s,[]))]):=by
 obtain ⟨c,hvr,hV⟩:=hc.rel.dat hs
 have hl:=zU hvr
 refine AZ8 hc.rel hc.dead ho (xS hc.opIn ho) hr ?_
 rw [hv] at hV
 exact A2r (hc.dead.root hs) hs rfl hn (by simp [inB]) (hv.trans hV) hl rfl (by simp [zF,hl]) (Option.some.inj hV)
theorem BL9 {s d:Nat} {t:Ty} {y:t.D} {f:Fl} {val:Value} (hc:Ctx P H S β a w o g) (hs:(g s).sv = .dat ⟨.ptr t,y,.own f⟩) (hv:oR a s = some val) (ho:o.dst = some d)
  (hr:(execOp a.eval o).run P w = .ok (.value val) w):yM P H S β a w o (g.ups [.put d (.adr s [.der] 0 (g s).s)]):=by
 obtain ⟨c,hvr,hV⟩:=hc.rel.dat hs
 refine AZ8 hc.rel hc.dead ho (xS hc.opIn ho) hr (A39 (hc.dead.root hs) (Nat.zero_le _) (Nat.le_refl _) fun _ dr hdr=>?_)
 rw [hs] at hdr
 cases hdr
 have hvr':=hvr
 simp only [zP,Fl.base] at hvr'
 obtain ⟨_,b,cs,rfl,_⟩:=hvr'
 rw [hv] at hV
 exact ⟨_,t,b,0,hv.trans hV,zU hvr,by simp [uH,wA,zF],hV,by simp [inB],fun h=>by simp [fX,jumps] at h⟩
theorem A4g {mv:Bool} {t:Option Ty} {x:Operand} (hc:Ctx P H S β a w o g) (hs:Sub gv g) (hm:o.op = .move x)
  (hk:A5b gv mv o t x some = some us):yM P H S β a w o (g.ups us):=by
 have hr:=A6H (P:=P) (w:=w) (a:=a) (.inl hm)
 unfold A5b at hk
 split at hk
 ·rename_i s hs1
  obtain ⟨dd,ho,rfl⟩:=yN hk
  unfold AT7 at hs1
  split at hs1
  ·rename_i s'
   split at hs1
   ·rename_i hp
    cases hs1
    simp only [Bool.and_eq_true] at hp
    obtain ⟨t',ht'⟩:=Option.isSome_iff_exists.1 hp.2
    unfold A0H at ht'
    split at ht'
    ·rename_i t1 y f hx
     have hsub:g s = gv s:=hs.get hx (by simp)
     have hs':(g s).sv = .dat ⟨.ptr t1,y,.own f⟩:=by rw [hsub];exact hx
     rw [← hsub]
     exact BL9 hc hs' (lU (hc.dead.root hs')) ho hr
    ·cases ht'
   ·cases hs1
  ·cases hs1
 rename_i hnn;clear hnn
 split at hk
 ·rename_i d hx
  have hx':=hs.sv hx (by simp)
  split at hk
  ·rename_i hf
   have hf:=uD hf
   rcases mZ hc.rel hx' with ⟨s,rfl,hs'⟩ | ⟨_,c,hcc,hrd⟩
   ·obtain ⟨c,hv,hV⟩:=hc.rel.dat hs'
    rw [hf,yQ] at hv
    exact DV.look ⟨hf,c,hv,zJ (x:=.tmp s) hV⟩ hc.rel hc.dead hc.opIn hk hr
   ·exact DV.look ⟨hf,c,hrd,zJ hcc⟩ hc.rel hc.dead hc.opIn hk hr
  ·split at hk
   ·cases hk
   ·rename_i hg
    split at hk
    ·rename_i s
     obtain ⟨dd,ho,rfl⟩:=yN hk
     have hsub:g s = gv s:=hs.get hx (by simp)
     have hs':(g s).sv = .dat d:=by rw [hsub];exact hx
     have:=Ay1 hc hs' (tP (by simpa using hg)) (lU (hc.dead.root hs')) ho hr
     have e:AX4 gv (s,[]) = AX4 g (s,[]):=by simp [AX4,hsub]
     rw [e];exact this
    ·cases hk
 ·rename_i r p c s hx
  obtain ⟨dd,ho,rfl⟩:=yN hk
  obtain ⟨i,rfl,hi⟩:=tH (hs.sv hx (by simp)) (by simp) (by simp) (by simp)
  exact A6Z hc hi (lU (hc.dead.lt (by rw [hi];simp))) ho hr
 ·rename_i r p c s hx
  obtain ⟨dd,ho,rfl⟩:=yN hk
  obtain ⟨i,rfl,hi⟩:=tH (hs.sv hx (by simp)) (by simp) (by simp) (by simp)
  exact A1G hc hi (lU (hc.dead.lt (by rw [hi];simp))) ho hr
 ·rename_i f rs hx
  obtain ⟨dd,ho,rfl⟩:=yN hk
  obtain ⟨i,rfl,hi⟩:=tH (hs.sv hx (by simp)) (by simp) (by simp) (by simp)
  have hss:=hc.rel.slots i
  rw [hi] at hss
  obtain ⟨h1,h2⟩:=hss
  refine AZ8 hc.rel hc.dead ho (xS hc.opIn ho) hr (A4c h1 ?_)
  rw [lU (hc.dead.lt (by rw [hi];simp))] at h2
  exact h2
 ·rename_i r p c s u d hx
  split at hk
  ·rename_i j e ho
   split at hk
   ·cases hk
   ·rename_i hje
    simp only [Nat.beq_eq] at hje
    simp only [Option.some.injEq] at hk;subst hk
    have hj:(g j).sv = .pend r p c s u d:=by
     have:=hs.sv hx (by simp)
     exact this
    have hjN:=hc.dead.lt (show (g j).sv ≠ .dead by rw [hj];simp)
    have hd:=xS hc.opIn ho
    have hss:=hc.rel.slots j
    rw [hj] at hss
    obtain ⟨h0,h1,h2,h3,h4⟩:=hss
    intro K Q hK
    refine tX hr (hK _ _ S (rekey β [j] [e]) vC yW ?_ (.rekey _ _))
    rw [ho,uF hd]
    have hk1:Rel H a.tmps.size (g.up (.put j .dead)) (oR a) w S β:=hc.rel.kill fun _ _=>rfl
    refine hk1.finish (fun _ _=>rfl) (hc.dead.up hjN) (fun _ _=>rfl) hd (hc.rel.sane.rekey _ _) (fun b hb=>⟨hb,rfl⟩) (fun i s b hi ha hb=>⟨?_,rfl⟩) ?_
    ·have hij:i ≠ j:=fun e'=>by subst e';exact ha (by rw [uE])
     rw [wZ (yF hi) (yF hij)];exact hb
    ·have hrj:∀ dr,(g r).sv = .dat dr → r ≠ j:=fun dr hdr e'=>by rw [e',hj] at hdr;cases hdr
     refine ⟨h0,?_⟩
     by_cases hre:r = e
     ·subst hre
      rw [uE]
      have hh:(g.up (.put j .dead)) r = g r:=qX (fun e'=>hje e'.symm)
      rw [hh]
      refine ⟨by simp;omega,by simp;omega,by simp;omega,fun ok=>?_⟩
      have:=(Ab4.1 ok).2
      rw [uE,hh] at this;simp at this;omega
     ·rw [qX hre]
      by_cases hrj':r = j
      ·subst hrj'
       rw [uE]
       refine ⟨by simp;omega,by simp;omega,by simp;omega,fun ok=>?_⟩
       intro dr hdr
       rw [qX hre,uE] at hdr;simp at hdr
      ·have hh:(g.up (.put j .dead)) r = g r:=qX hrj'
       rw [hh]
       refine ⟨h1,h2,h3,fun ok dr hdr=>?_⟩
       have hh2:((g.up (.put j .dead)).up (.put e (.pend r p c s u d))) r = g r:=by rw [qX hre,hh]
       rw [Sub.okU hh2] at ok
       rw [hh2] at hdr
       obtain ⟨k1,β2,cc,k2,k3,k4⟩:=h4 ok dr hdr
       rw [lU hjN] at k4
       refine ⟨k1,?_⟩
       have e4:(upd (oR a) e (a.eval (.tmp j))) e = some (yA d.t cc):=by simp only [upd,if_true];exact k4
       have hother:∀ s b,β (r :: s) = some b → rekey β [j] [e] (r :: s) = some b:=fun s b hb=>by
        rw [wZ (yF hre) (yF hrj')];exact hb
       rcases k2 with rfl | ⟨b,hb,rfl⟩
       ·exact ⟨_,cc,.inl rfl,zL (fun b hb=>⟨hb,rfl⟩) (fun s b hb=>⟨hother _ _ (by simpa using hb),rfl⟩) k3,e4⟩
       ·refine ⟨_,cc,.inr ⟨b,?_,rfl⟩,zL (fun b hb=>⟨hb,rfl⟩) (fun s b2 hb2=>⟨?_,rfl⟩) k3,e4⟩
        ·have:=Ap0 (β:=β) (src:=[j]) (dst:=[e]) (s:=[])
         simp only [List.append_nil] at this
         rw [this];exact hb
        ·unfold repl at hb2 ⊢
         split at hb2
         ·rename_i e5;rw [if_pos e5];exact hb2
         ·rename_i e5
          rw [if_neg e5,if_neg (by simp [hre])]
          split at hb2
          ·cases hb2
          ·exact hother _ _ (by simpa using hb2)
  ·cases hk
 ·rename_i hx
  split at hk
  ·rename_i τ
   obtain ⟨dd,ho,rfl⟩:=yN hk
   have hxv:a.eval x = .slice none 0 0:=by
    rcases aB (hs.sv hx (by simp)) with ⟨s,rfl,h⟩ | rfl
    ·have:=hc.rel.slots s
     rw [h] at this;exact this.elim
    ·rfl
   rw [hxv] at hr
   refine AZ8 hc.rel hc.dead ho (xS hc.opIn ho) hr ⟨[.slice none 0 0],?_,by simp [upd,yA,Ty.agg]⟩
   simp only [zP,Fl.base,nQ,Fl.pins]
   exact ⟨by simp,none,0,rfl,by simp,.inl rfl⟩
  ·cases hk
 ·rename_i d hx
  split at hk
  ·rename_i j e ho
   split at hk
   ·cases hk
   ·rename_i hje
    simp only [Nat.beq_eq] at hje
    simp only [Option.some.injEq] at hk;subst hk
    have hj:(g j).sv = .tup d:=hs.sv hx (by simp)
    have hjN:=hc.dead.lt (show (g j).sv ≠ .dead by rw [hj];simp)
    have hd:=xS hc.opIn ho
    have hss:=hc.rel.slots j
    rw [hj] at hss
    obtain ⟨c,hv,hV⟩:=hss
    intro K Q hK
    refine tX hr (hK _ _ S (rekey β [j] [e]) vC yW ?_ (.rekey _ _))
    rw [ho,uF hd]
    have hk1:Rel H a.tmps.size (g.up (.put j .dead)) (oR a) w S β:=hc.rel.kill fun _ _=>rfl
    refine hk1.finish (fun _ _=>rfl) (hc.dead.up hjN) (fun _ _=>rfl) hd (hc.rel.sane.rekey _ _) (fun b hb=>⟨hb,rfl⟩) (fun i s b hi ha hb=>⟨?_,rfl⟩) ?_
    ·have hij:i ≠ j:=fun e'=>by subst e';exact ha (by rw [uE])
     rw [wZ (yF hi) (yF hij)];exact hb
    ·refine ⟨c,oZ hv,?_⟩
     simp only [upd,if_true]
     rw [lU hjN] at hV;exact hV
  ·cases hk
 ·cases hk
theorem A8N {x:Operand} (hc:Ctx P H S β a w o g) (hs:Sub gv g) (hm:o.op = .nilCheck x)
  (hk:Bh0 gv o x some = some us):yM P H S β a w o (g.ups us):=by
 unfold Bh0 at hk
 split at hk
 ·rename_i r p c s hx
  split at hk
  ·rename_i hok
   simp only [Bool.and_eq_true] at hok
   obtain ⟨dd,ho,rfl⟩:=yN hk
   obtain ⟨i,rfl,hi⟩:=tH (hs.sv hx (by simp)) (by simp) (by simp) (by simp)
   have hss:=hc.rel.slots i
   rw [hi] at hss
   obtain ⟨h0,h1,h2,h3⟩:=hss
   obtain ⟨hok,hdat⟩:=hok
   unfold BO6 at hdat
   split at hdat
   ·rename_i dr hdr
    have hr:=hs.get hdr (by simp)
    obtain ⟨cr,t,b,oo,k1,k2,k3,k4,_⟩:=h3 (by rw [Sub.okB hr];exact hok) dr (by rw [hr];exact hdr)
    exact A1G hc hi k4 ho (Aq8 hm (zJ (x:=.tmp i) k4))
   ·cases hdat
  ·cases hk
 ·rename_i r p c s hx
  split at hk
  ·rename_i hok
   split at hk
   ·rename_i t y f hat
    obtain ⟨dd,ho,rfl⟩:=yN hk
    obtain ⟨i,rfl,hi⟩:=tH (hs.sv hx (by simp)) (by simp) (by simp) (by simp)
    obtain ⟨hat',hr⟩:=hs.atP hat
    obtain ⟨e,he,hg⟩:=gR hat'
    obtain ⟨_,_,hn,cr,L,c',_,_,_,_,_,k6,k7⟩:=hc.rel.als hi (by rw [Sub.okA hr];exact hok) he hg
    obtain ⟨b,rfl⟩:=AX9 hn k6
    exact A6Z hc hi k7 ho (Aq8 hm (zJ (x:=.tmp i) k7))
   ·cases hk
  ·cases hk
 ·rename_i t y f hx
  have hx':=hs.sv hx (by simp)
  split at hk
  ·rename_i hf
   have hf:=uD hf
   subst hf
   rcases mZ hc.rel hx' with ⟨s,rfl,hs'⟩ | ⟨_,c,hcc,hrd⟩
   ·obtain ⟨c,hv,hV⟩:=hc.rel.dat hs'
    have hv0:=hv
    rw [yQ] at hv
    obtain ⟨b,rfl⟩:=AX9 gY hv0
    exact DV.look (d:=⟨.ptr t,y,.sh⟩) ⟨rfl,_,hv,rfl⟩ hc.rel hc.dead hc.opIn hk (Aq8 hm (zJ (x:=.tmp s) hV))
   ·obtain ⟨b,rfl⟩:=AX9 (H:=H) (β:=β) (k:=[]) gY (yQ.2 hrd)
    exact DV.look (d:=⟨.ptr t,y,.sh⟩) ⟨rfl,_,hrd,rfl⟩ hc.rel hc.dead hc.opIn hk (Aq8 hm (zJ hcc))
  ·split at hk
   ·cases hk
   ·rename_i hg
    split at hk
    ·rename_i s
     obtain ⟨dd,ho,rfl⟩:=yN hk
     have hsub:g s = gv s:=hs.get hx (by simp)
     have hs':(g s).sv = .dat ⟨.ptr t,y,f⟩:=by rw [hsub];exact hx
     obtain ⟨c,hv,hV⟩:=hc.rel.dat hs'
     obtain ⟨b,rfl⟩:=AX9 (tP (by simpa using hg)) hv
     have:=Ay1 hc hs' (tP (by simpa using hg)) hV ho (Aq8 hm (zJ (x:=.tmp s) hV))
     have e:AX4 gv (s,[]) = AX4 g (s,[]):=by simp [AX4,hsub]
     rw [e];exact this
    ·cases hk
 ·cases hk
end
end Go.Rf

end
section
namespace Go.Rf
set_option linter.unusedSectionVars false
variable [T:Laid]
section
variable {P:Program} {H:Nat → Option (List Value)} {N:Nat} {g g' σ:yB} {V V':Nat → Option Value} {w w':World} {S S':Nat → Prop} {β β':Key → Option Nat} {a:Act} {o:Oper}
variable {E:Env} {gv:yB} {us:List Up}
theorem A5i {t:TypeId} {x:Operand} (hc:Ctx E.P H S β a w o g) (hs:Sub gv g) (hm:o.op = .load t x)
  (hk:A7i gv o (E.ty t) x some = some us):yM E.P H S β a w o (g.ups us):=by
 unfold A7i at hk
 split at hk
 ·rename_i q hq
  split at hk
  ·rename_i d hat
   split at hk
   ·rename_i hcond
    simp only [Bool.and_eq_true,decide_eq_true_eq,Bool.not_eq_true'] at hcond
    obtain ⟨hty,hgn⟩:=hcond
    have hn:=tP hgn
    obtain ⟨hq',hat',hr⟩:=dQ hs hq hat
    obtain ⟨e,cr,b,oo,he,hg,hb,hV,hl,hw,hx,_⟩:=gU hc.rel hq' hat'
    obtain ⟨cr',L,c,k1,k2,k3,k4,k5,k6⟩:=hc.rel.place he hg hb hn
    have:=tK (Option.some.inj (k1.symm.trans hV)) k2 hl
    subst this
    rw [hw] at k4
    simp only [Option.some.injEq,Prod.mk.injEq,true_and] at k4
    subst k4
    have hrun:(execOp a.eval o).run E.P w = .ok (.value (yA d.t c)) w:=by
     simp only [execOp,hm,zJ hx,Instr.loadAt,Instr.sureAddr,Sem.run_bind,Sem.run_pure,Result.andThen_ok,Ai4 hty k5]
    split at hk
    ·rename_i hf
     have hf:=uD hf
     rw [hf,yQ] at k6
     exact DV.look ⟨hf,c,k6,rfl⟩ hc.rel hc.dead hc.opIn hk hrun
    ·obtain ⟨dd,ho,rfl⟩:=yN hk
     have ea:AX4 gv q = AX4 g q:=by simp [AX4,hr]
     rw [ea]
     exact AZ8 hc.rel hc.dead ho (xS hc.opIn ho) hrun (A2r (hc.dead.root he) he hg hn hb hV hl hw k5 rfl)
   ·cases hk
  ·cases hk
 ·cases hk
theorem Am1 {r:Nat} {p:List PS} {e d:Dat} {cr:List Value} {b oo dd:Nat} (hc:Ctx P H S β a w o g) (he:(g r).sv = .dat e) (hV:oR a r = some (yA e.t cr)) (hl:cr.length = e.t.size)
  (hw:uH w e.t (.reg cr) p = some (d.t,.mem b oo)) (hb:inB p e.t e.x) (hg:xA p e.t e.f e.x = some d) (hn:fX p = true ∨ d.f.base ≠ .gone) (ho:o.dst = some dd)
  (hr:(execOp a.eval o).run P w = .ok (.value (.pointer (some ⟨b,oo,none⟩))) w):yM P H S β a w o (g.ups [.put dd (A7y g (r,p))]):=by
 refine AZ8 hc.rel hc.dead ho (xS hc.opIn ho) hr ?_
 refine A39 (hc.dead.root he) (Nat.le_refl _) (Nat.le_refl _) fun _ dr hdr=>?_
 rw [he] at hdr
 simp only [SV.dat.injEq] at hdr
 subst hdr
 exact ⟨cr,_,b,oo,hV,hl,hw,rfl,hb,fun hbx=>⟨d,hg,hn.resolve_left (by rw [hbx];simp)⟩⟩
theorem Ay2 {ty:TypeId → Option Ty}:∀ {i:Nat} {fs:List Field} {off:Nat} {τ:Ty} {f:Fl} {x:τ.D} {d:Dat} {b o:Nat},lF ty fs off = some τ → xA (yC i) τ f x = some d →
  ∃ fl,fs[i]? = some fl ∧ ty fl.type = some d.t ∧ off ≤ fl.offset ∧ uH w τ (.mem b o) (yC i) = some (d.t,.mem b (o + (fl.offset - off))) ∧ inB (yC i) τ x
 | i,[],off,τ,f,x,d,b,o,h,hg=>by
  simp only [lF,Option.some.injEq] at h;subst h
  cases i <;> simp [yC,xA] at hg
 | i,fl :: fs,off,τ,f,x,d,b,o,h,hg=>by
  simp only [lF] at h
  split at h
  ·rename_i a ha
   split at h
   ·rename_i ho
    simp only [Nat.beq_eq] at ho
    simp only [Option.map_eq_some_iff] at h
    obtain ⟨τ',h,rfl⟩:=h
    cases i with
    | zero=>
     simp only [yC,xA,Option.some.injEq] at hg
     subst hg
     exact ⟨fl,rfl,ha,by omega,by simp [yC,uH,wA,aW,ho],by simp [yC,inB]⟩
    | succ i=>
     simp only [yC,xA] at hg
     obtain ⟨fl',h1,h2,h3,h4,h5⟩:=Ay2 (b:=b) (o:=o + a.size) h hg
     refine ⟨fl',by simpa using h1,h2,by omega,?_,by simpa [yC,inB] using h5⟩
     simp only [yC,uH,wA,aW]
     rw [h4]
     congr 3
     omega
   ·cases h
  ·cases h
theorem As6:∀ {i:Nat},jumps (yC i) = false
 | 0=>rfl
 | i + 1=>by simp only [yC,jumps,PS.jumps,Bool.false_or];exact As6
theorem A51 {d:Nat} {t:TypeId} {x y:Ty} (h:tyN P (d + 1) t = some (.pair x y)):∃ fs,P.underlying t = some (.struct fs) ∧ lF (tyN P d) fs.toList 0 = some (.pair x y):=by
 obtain ⟨i,u,_,h2,_,h4⟩:=mR h
 unfold nX at h4
 cases u <;> simp only [reduceCtorEq] at h4 <;> first
  | exact ⟨_,h2,h4⟩
  | (obtain ⟨a,_,h⟩:=h4;cases h)
theorem A4u {s:TypeId} {fs:Array Field} {fl:Field} {i b oo d:Nat} {τ:Ty} (hs:P.underlying s = some (.struct fs)) (hf:fs.toList[i]? = some fl) (ht:tyN P (d + 1) fl.type = some τ) (hz:τ.size ≠ 0):
  (Instr.fieldAt s (.pointer (some ⟨b,oo,none⟩)) i).run P w = .ok (.pointer (some ⟨b,oo + fl.offset,none⟩)) w:=by
 have hf':fs[i]? = some fl:=by simpa using hf
 simp only [Instr.fieldAt,Sem.run_bind,zC hs,Result.andThen_ok,hf',Instr.sureAddr,Sem.run_pure,fieldPlace,tT ht]
 rw [if_neg hz]
 simp only [Sem.run_pure,Result.andThen_ok,jD]
theorem Aj0 {t:TypeId} {x:Operand} {i:Nat} (hc:Ctx E.P H S β a w o g) (hs:Sub gv g) (hm:o.op = .fieldAddr t x i)
  (hk:eS gv o (E.ty t) x i some = some us):yM E.P H S β a w o (g.ups us):=by
 unfold eS at hk
 split at hk
 ·rename_i q hq
  split at hk
  ·rename_i hta
   split at hk
   ·rename_i d hat
    split at hk
    ·rename_i hcond
     simp only [Bool.and_eq_true,Bool.not_eq_true',Bool.or_eq_true] at hcond
     obtain ⟨hgn,hz⟩:=hcond
     obtain ⟨dd,ho,rfl⟩:=yN hk
     unfold A2v at hta
     cases hp:atP gv q.1 q.2 with
     | none=>
      rw [hp] at hta
      have hnot:=hs.atP hat
      obtain ⟨e,he,hg⟩:=gR hat
      rw [Option.map_none] at hta
      exfalso
      have hpar:∀ (p:List PS) (t:Ty) (f:Fl) (x:t.D) (j:Nat) (d:Dat),xA (p ++ yC j) t f x = some d → xA p t f x ≠ none:=by
       intro p
       induction p with
       | nil=>intro t f x j d _;simp [xA]
       | cons s p ih=>
        intro t f x j d h
        cases s <;> cases t <;> simp only [List.cons_append,xA,reduceCtorEq] at h ⊢ <;> exact ih _ _ _ _ _ h
      unfold atP at hp
      rw [he] at hp
      exact hpar _ _ _ _ _ _ hg hp
     | some d0=>
      rw [hp] at hta
      simp only [Option.map_some] at hta
      obtain ⟨hq',hat',hr⟩:=dQ hs hq hp
      obtain ⟨e,cr,b,oo,he,hg,hb,hV,hl,hw,hx,hsol⟩:=gU hc.rel hq' hat'
      obtain ⟨hat2,_⟩:=hs.atP hat
      obtain ⟨e',he',hg'⟩:=gR hat2
      rw [he] at he'
      simp only [SV.dat.injEq] at he'
      subst he'
      rw [qS hg] at hg'
      have hpair:∃ x y,d0.t = .pair x y:=by
       obtain ⟨t0,x0,f0⟩:=d0
       cases t0 <;> cases i <;> simp only [yC,xA,reduceCtorEq] at hg' <;> exact ⟨_,_,rfl⟩
      obtain ⟨tx,ty,hpair⟩:=hpair
      rw [hpair] at hta
      obtain ⟨fs,hfs,hch⟩:=A51 (hta.symm:tyN E.P (7 + 1) t = _)
      rw [← hpair] at hch
      obtain ⟨fl,h1,h2,h3,h4,h5⟩:=Ay2 (w:=w) (b:=b) (o:=oo) hch hg'
      have ea:A7y gv (q.1,q.2 ++ yC i) = A7y g (q.1,q.2 ++ yC i):=by simp [A7y,hr]
      rw [ea]
      have hz':d.t.size ≠ 0:=fun e=>by rw [e] at hz;cases hz
      refine Am1 (d:=d) hc he hV hl (by rw [iU hw,h4]) (mS hg hb h5) (by rw [qS hg];exact hg') ?_ ho ?_
      ·rcases hgn with h | h
       ·exact .inl (Af3 h As6)
       ·exact .inr (tP h)
      ·simp only [execOp,hm,zJ hx,Sem.run_bind,A4u hfs h1 (d:=6) h2 hz',Result.andThen_ok,Sem.run_pure]
       simp
    ·cases hk
   ·cases hk
  ·cases hk
 ·cases hk
theorem At8 {t e:TypeId} {d:Nat} {τ:Ty} {k:IntKind} {n:Int} {b oo len cap:Nat} (he:P.underlying t = some (.slice e)) (ht:tyN P (d + 1) e = some τ) (h1:zA n = true) (h2:n.toNat < len):
  (Instr.indexAt t (.slice (some ⟨b,oo,none⟩) len cap) (.int k n)).run P w = .ok (.pointer (some ⟨b,oo + n.toNat * τ.size,none⟩)) w:=by
 simp only [zA,decide_eq_true_eq] at h1
 simp only [Instr.indexAt,asIntOf,Sem.run_bind,Sem.run_pure,Result.andThen_ok,zC he]
 rw [if_pos ⟨h1,by omega⟩]
 simp only [Sem.run_bind,tT ht,Result.andThen_ok,Sem.run_pure,jD]
theorem An1 {t e:TypeId} {d:Nat} {τ:Ty} {k:IntKind} {n:Int} {b oo len:Nat} (he:P.underlying t = some (.array len e)) (ht:tyN P (d + 1) e = some τ) (h1:zA n = true) (h2:n.toNat < len):
  (Instr.indexAt t (.pointer (some ⟨b,oo,none⟩)) (.int k n)).run P w = .ok (.pointer (some ⟨b,oo + n.toNat * τ.size,none⟩)) w:=by
 simp only [zA,decide_eq_true_eq] at h1
 simp only [Instr.indexAt,asIntOf,Sem.run_bind,Sem.run_pure,Result.andThen_ok,zC he,Instr.sureAddr]
 rw [if_pos ⟨h1,by omega⟩]
 simp only [Sem.run_bind,tT ht,Result.andThen_ok,Sem.run_pure,jD]
theorem AQ2 {ρ:Operand → Value} {t:TypeId} {x i:Operand} {val:Value} (ho:o.op = .indexAddr t x i) (hr:(Instr.indexAt t (ρ x) (ρ i)).run P w = .ok val w):(execOp ρ o).run P w = .ok (.value val) w:=by
 simp only [execOp,ho,Sem.run_bind,hr,Result.andThen_ok,Sem.run_pure]
theorem A5s {f:Fl} (h:f.whole = true):f.base ≠ .gone:=bQ h
theorem Aj4 {t:TypeId} {x i:Operand} (hc:Ctx E.P H S β a w o g) (hs:Sub gv g) (hm:o.op = .indexAddr t x i)
  (hk:eO gv o (E.ty t) x i some = some us):yM E.P H S β a w o (g.ups us):=by
 unfold eO at hk
 split at hk
 ·rename_i τ k n ht hi
  have ei:=zJ (dV hc.rel (hs.sv hi (by simp)) gY)
  split at hk
  ·rename_i q hq
   split at hk
   ·rename_i τ' xs f hat
    split at hk
    ·rename_i hcond
     simp only [Bool.and_eq_true,decide_eq_true_eq,Bool.not_eq_true'] at hcond
     obtain ⟨⟨rfl,hew⟩,hgn⟩:=hcond
     simp only [Bool.cond_eq_ite] at hk
     split at hk
     ·rename_i h1
      split at hk
      ·rename_i h2
       obtain ⟨dd,ho,rfl⟩:=yN hk
       simp only [Nat.blt_eq] at h2
       obtain ⟨hq',hat',hr⟩:=AJ1 hs hq hat
       obtain ⟨e,cr,L,c,he,hg,hb,hV,hl,hvr,hw,hcc,hvp,hx⟩:=AC4 hc.rel hq' hat' (tP hgn)
       obtain ⟨el,hel,htl⟩:=AY2 ht
       obtain ⟨b,oo,cs,m,cap,rfl,him,hsb,hB,hz,hv⟩:=A1k (A5s hew) hvp (qM (z:=τ'.dflt) h2)
       have ea:A7y gv (q.1,q.2 ++ [.elm (Int.toNat n)]) = A7y g (q.1,q.2 ++ [.elm (Int.toNat n)]):=by simp [A7y,hr]
       rw [ea]
       have hlen:m = List.length xs:=by
        have h3:=hvp
        simp only [zP] at h3
        replace h3:=h3.2
        cases hfb:Fl.base f with
        | own e2=>rw [hfb] at h3;obtain ⟨ad,cap',e5,_⟩:=h3;simp only [List.cons.injEq,Value.slice.injEq,and_true] at e5;exact e5.2.1
        | gone=>exact absurd hfb (tP hgn)
        | _=>rw [hfb] at h3;simp only [Rd] at h3;obtain ⟨ad,cap',e5,_⟩:=h3;simp only [List.cons.injEq,Value.slice.injEq,and_true] at e5;exact e5.2.1
       have hg2:xA (q.2 ++ [.elm (Int.toNat n)]) e.t e.f e.x = some ⟨τ',List.getD xs (Int.toNat n) τ'.dflt,f.e⟩:=by rw [qS hg];rfl
       refine Am1 (d:=⟨τ',List.getD xs (Int.toNat n) τ'.dflt,f.e⟩) (b:=b) (oo:=oo + Int.toNat n * τ'.size) hc he hV hl ?_ (mS hg hb (by simp only [inB];exact ⟨h2,trivial⟩)) hg2 (.inr (A5s hew)) ho (AQ2 hm ?_)
       ·rw [iU hw]
        simp only [Ty.size] at hcc
        simp only [uH,wA,hcc,him,if_true]
       ·rw [zJ hx,ei]
        exact At8 hel htl h1 (by omega)
      ·cases hk
     ·cases hk
    ·cases hk
   ·cases hk
  ·cases hk
 ·rename_i m τ k n ht hi
  have ei:=zJ (dV hc.rel (hs.sv hi (by simp)) gY)
  split at hk
  ·rename_i q hq
   split at hk
   ·rename_i n' τ' xs f hat
    split at hk
    ·rename_i hcond
     simp only [Bool.and_eq_true,decide_eq_true_eq,Bool.not_eq_true',Bool.or_eq_true] at hcond
     obtain ⟨⟨rfl,rfl⟩,hgn⟩:=hcond
     simp only [Bool.cond_eq_ite] at hk
     split at hk
     ·rename_i h1
      split at hk
      ·rename_i h2
       obtain ⟨dd,ho,rfl⟩:=yN hk
       simp only [Nat.blt_eq] at h2
       obtain ⟨hq',hat',hr⟩:=dQ hs hq hat
       obtain ⟨e,cr,b,oo,he,hg,hb,hV,hl,hw,hx,hsol⟩:=gU hc.rel hq' hat'
       obtain ⟨el,hel,htl⟩:=An9 ht
       have ea:A7y gv (q.1,q.2 ++ [.idx (Int.toNat n)]) = A7y g (q.1,q.2 ++ [.idx (Int.toNat n)]):=by simp [A7y,hr]
       rw [ea]
       have hg2:xA (q.2 ++ [.idx (Int.toNat n)]) e.t e.f e.x = some ⟨τ',List.getD xs (Int.toNat n) τ'.dflt,f.a⟩:=by rw [qS hg];rfl
       refine Am1 (d:=⟨τ',List.getD xs (Int.toNat n) τ'.dflt,f.a⟩) (b:=b) (oo:=oo + Int.toNat n * τ'.size) hc he hV hl ?_ (mS hg hb (by simp only [inB];exact ⟨h2,trivial⟩)) hg2 ?_ ho (AQ2 hm ?_)
       ·rw [iU hw]
        simp only [uH,wA,h2,if_true,aW]
       ·rcases hgn with h | h
        ·exact .inl (Af3 h rfl)
        ·exact .inr (tP h)
       ·rw [zJ hx,ei]
        exact An1 hel htl h1 h2
      ·cases hk
     ·cases hk
    ·cases hk
   ·cases hk
  ·cases hk
 ·cases hk
end
end Go.Rf

end
section
namespace Go.Rf
set_option linter.unusedSectionVars false
variable [T:Laid]
section
variable {P:Program} {H:Nat → Option (List Value)} {N:Nat} {g g' σ:yB} {V V':Nat → Option Value} {w w':World} {S S':Nat → Prop} {β β':Key → Option Nat} {a:Act} {o:Oper}
variable {E:Env} {gv:yB} {us:List Up}
theorem AC8:∀ {p:List PS} {t:Ty} {f:Fl} {x:t.D} {d:Dat} {y:Fl × t.D} {k ko:Key} {L:Loc} {c:List Value} {t':Ty} {b o:Nat},
  lP p t f x d = some y → inB p t x → zF w t.size L = some c → zP S β H w k t f x c → uH w t L p = some (t',.mem b o) →
  (∀ b' o',L = .mem b' o' → β ko = some b' ∧ ∃ q cs,AF7 q w b' cs) →
  β (xG k ko p) = some b ∧ ∃ q cs,AF7 q w b cs ∧ o + t'.size ≤ cs.size
 | [],t,f,x,d,y,k,ko,L,c,t',b,o,_,_,hc,_,hw,hL=>by
  simp only [uH,Option.some.injEq,Prod.mk.injEq] at hw
  obtain ⟨rfl,rfl⟩:=hw
  obtain ⟨h1,q0,cs,h2⟩:=hL _ _ rfl
  exact ⟨h1,q0,cs,h2,(iN hc h2.blk).2⟩
 | .fst :: p,.pair s u,f,x,d,y,k,ko,L,c,t',b,o,hm,hi,hc,hv,hw,hL=>by
  simp only [lP] at hm
  cases hm':lP p s f.l x.1 d with
  | none=>simp [hm'] at hm
  | some z=>
   have h':=(vI hv).1
   rw [nM] at h'
   simp only [uH,wA] at hw
   simp only [xG]
   refine AC8 hm' (by simpa [inB] using hi) (zZ (i:=0) (m:=s.size) hc (by simp [Ty.size])) h' hw (fun b' o' e=>?_)
   cases L with
   | reg _=>simp [aW] at e
   | mem b2 o2=>simp only [aW,Loc.mem.injEq] at e;rw [← e.1];exact hL _ _ rfl
 | .snd :: p,.pair s u,f,x,d,y,k,ko,L,c,t',b,o,hm,hi,hc,hv,hw,hL=>by
  simp only [lP] at hm
  cases hm':lP p u f.r x.2 d with
  | none=>simp [hm'] at hm
  | some z=>
   have h':=(vI hv).2
   have hl:=zU hv
   rw [nK (by simpa [Ty.size] using hl)] at h'
   simp only [uH,wA] at hw
   simp only [xG]
   refine AC8 hm' (by simpa [inB] using hi) (zZ (i:=s.size) (m:=u.size) hc (by simp [Ty.size])) h' hw (fun b' o' e=>?_)
   cases L with
   | reg _=>simp [aW] at e
   | mem b2 o2=>simp only [aW,Loc.mem.injEq] at e;rw [← e.1];exact hL _ _ rfl
 | .idx i :: p,.arr n t,f,x,d,y,k,ko,L,c,t',b,o,hm,hi,hc,hv,hw,hL=>by
  simp only [lP] at hm
  cases hm':lP p t f.a (List.getD x i t.dflt) d with
  | none=>simp [hm'] at hm
  | some z=>
   simp only [hm',Option.bind_some] at hm
   split at hm
   ·rename_i hcond
    simp only [inB] at hi
    simp only [Bool.and_eq_true] at hcond
    obtain ⟨hx,hcl,h'⟩:=iI (bQ hcond.1) hv
    have hlt:(i + 1) * t.size ≤ n * t.size:=Nat.mul_le_mul_right _ hi.1
    rw [Nat.add_mul] at hlt
    simp only [uH,wA,hi.1,if_true] at hw
    simp only [xG]
    refine AC8 hm' hi.2 (zZ (i:=i * t.size) (m:=t.size) hc (by simp only [Ty.size];omega)) (h' i _ (qM (by omega))) hw (fun b' o' e=>?_)
    cases L with
    | reg _=>simp [aW] at e
    | mem b2 o2=>simp only [aW,Loc.mem.injEq] at e;rw [← e.1];exact hL _ _ rfl
   ·cases hm
 | .der :: p,.ptr t,f,x,d,y,k,ko,L,c,t',b,o,hm,hi,hc,hv,hw,hL=>by
  have main:∀ e,f.base = .own e → lP p t e x d ≠ none → β (xG (k ++ [0]) k p) = some b ∧ ∃ q cs,AF7 q w b cs ∧ o + t'.size ≤ cs.size:=by
   intro e hf hm'
   cases hm'':lP p t e x d with
   | none=>exact absurd hm'' hm'
   | some z=>
    simp only [zP] at hv
    replace hv:=hv.2
    rw [hf] at hv
    obtain ⟨b1,cs,rfl,hk,ho,hz,hv⟩:=hv
    simp only [Ty.size] at hc
    simp only [uH,wA,hc] at hw
    have hc':=zM (o:=0) (n:=t.size) ho.blk (by omega)
    have:win cs.toList 0 t.size = cs.toList:=by rw [← hz,← Array.length_toList];exact bH _
    rw [this] at hc'
    exact AC8 hm'' (by simpa [inB] using hi) hc' hv hw (fun b' o' e=>by simp only [Loc.mem.injEq] at e;rw [← e.1];exact ⟨hk,_,cs,ho⟩)
  simp only [xG]
  cases f with
  | own e=>exact main e rfl (fun e=>by simp [lP,e] at hm)
  | pin j g=>cases g with
   | own e=>exact main e rfl (fun e=>by simp [lP,e] at hm)
   | _=>simp [lP] at hm
  | _=>simp [lP] at hm
 | .elm i :: p,.sl t,f,x,d,y,k,ko,L,c,t',b,o,hm,hi,hc,hv,hw,hL=>by
  simp only [inB] at hi
  have main:∀ e,f.base = .own e → lP p t e (List.getD x i t.dflt) d ≠ none → β (xG (k ++ [i]) k p) = some b ∧ ∃ q cs,AF7 q w b cs ∧ o + t'.size ≤ cs.size:=by
   intro e hf hm'
   cases hm'':lP p t e (List.getD x i t.dflt) d with
   | none=>exact absurd hm'' hm'
   | some z=>
    simp only [zP] at hv
    replace hv:=hv.2
    rw [hf] at hv
    obtain ⟨ad,cap,rfl,hlc,hv⟩:=hv
    rcases hv with hv | ⟨b1,o1,cs,rfl,hk,ho,hz,hv⟩
    ·have:=hi.1;omega
    ·simp only [Ty.size] at hc
     simp only [uH,wA,hc,hi.1,if_true] at hw
     have hlt:(i + 1) * t.size ≤ cap * t.size:=Nat.mul_le_mul_right _ (by have:=hi.1;omega)
     rw [Nat.add_mul] at hlt
     have hc':=zM (o:=o1 + i * t.size) (n:=t.size) ho.blk (by omega)
     exact AC8 hm'' hi.2 hc' (hv i _ (qM hi.1)) hw (fun b' o' e=>by simp only [Loc.mem.injEq] at e;rw [← e.1];exact ⟨hk,_,cs,ho⟩)
  simp only [xG]
  cases f with
  | own e=>exact main e rfl (fun e=>by simp [lP,e] at hm)
  | pin j g=>cases g with
   | own e=>exact main e rfl (fun e=>by simp [lP,e] at hm)
   | _=>simp [lP] at hm
  | _=>simp [lP] at hm
theorem eW:∀ {p:List PS} {k ko:Key},ko.length < k.length → (xG k ko p).length < (k ++ xP p).length
 | [],k,ko,h=>by simpa [xG,xP] using h
 | .fst :: p,k,ko,h=>by
  have:=eW (p:=p) (k:=k ++ [0]) (ko:=ko) (by simp;omega)
  simpa [xG,xP] using this
 | .snd :: p,k,ko,h=>by
  have:=eW (p:=p) (k:=k ++ [1]) (ko:=ko) (by simp;omega)
  simpa [xG,xP] using this
 | .idx i :: p,k,ko,h=>by
  have:=eW (p:=p) (k:=k ++ [i]) (ko:=ko) (by simp;omega)
  simpa [xG,xP] using this
 | .der :: p,k,ko,h=>by
  have:=eW (p:=p) (k:=k ++ [0]) (ko:=k) (by simp)
  simpa [xG,xP] using this
 | .elm i :: p,k,ko,h=>by
  have:=eW (p:=p) (k:=k ++ [i]) (ko:=k) (by simp)
  simpa [xG,xP] using this
theorem A1B {p:List PS} {t t':Ty} {c:List Value} {b o:Nat} (h:uH w t (.reg c) p = some (t',.mem b o)):jumps p = true:=by
 cases hj:jumps p with
 | true=>rfl
 | false=>have:=nR hj h;simp at this
open Classical in
theorem Rel.store {r:Nat} {p:List PS} {e d:Dat} {f2:Fl} {x2:e.t.D} {cr cd:List Value} {t':Ty} {b₀ o₀:Nat} (h:Rel H N g V w S β) (he:(g r).sv = .dat e) (hm:lP p e.t e.f e.x d = some (f2,x2)) (hb:inB p e.t e.x)
  (hV:V r = some (yA e.t cr)) (hl:cr.length = e.t.size) (hw:uH w e.t (.reg cr) p = some (t',.mem b₀ o₀)) (ht:t'.size = d.t.size)
  (hs:Sane w S' β') (hSS:∀ b,S b → S' b) (hβ1:∀ j s b,j ≠ r → (g j).sv ≠ .dead → β (j :: s) = some b → β' (j :: s) = some b) (hβ2:∀ s b,¬ xP p <+: s → β (r :: s) = some b → β' (r :: s) = some b)
  (hd:zP S' β' H w (r :: xP p) d.t d.f d.x cd) (hchg:Chg w w' b₀ o₀ cd) (hsz:w'.heap.size = w.heap.size):
  Rel H N (g.up (.mod r (.dat ⟨e.t,x2,f2⟩))) V w' S' β':=by
 have hj:=A1B hw
 obtain ⟨c,hv,hV2⟩:=h.dat he
 have:=tK (Option.some.inj (hV2.symm.trans hV)) (zU hv) hl
 subst this
 have hcells:zF w e.t.size (.reg c) = some c:=by simp [zF,hl]
 obtain ⟨hown,cs,hB,_⟩:=AC8 (k:=[r]) (ko:=[]) hm hb hcells hv hw (by simp)
 have hlen:=eW (p:=p) (k:=[r]) (ko:=[]) (by simp)
 obtain ⟨s0,hs0⟩:=qW (p:=p) (k:=[r]) (ko:=[]) hj
 have hnp:¬ (r :: xP p) <+: xG [r] [] p:=fun hp=>by have:=hp.length_le;simp at this hlen;omega
 have hown':β' (xG [r] [] p) = some b₀:=by
  rw [hs0] at hown hnp ⊢
  simp only [List.cons_append,List.nil_append] at hown hnp ⊢
  exact hβ2 s0 b₀ (fun hp=>hnp ((List.prefix_cons_inj r).2 hp)) hown
 have hSb:¬ S' b₀:=hs.sep _ _ hown'
 let β0:Key → Option Nat:=fun key=>if (r :: xP p) <+: key then β key else β' key
 have hv0:zP S' β0 H w [r] e.t e.f e.x c:=zL (fun b hb=>⟨hSS b hb,rfl⟩) (fun s b hb=>⟨by
  simp only [List.cons_append,List.nil_append] at hb ⊢
  show (if _ then _ else _) = _
  split
  ·exact hb
  ·rename_i hnp';exact hβ2 s b (fun hp=>hnp' ((List.prefix_cons_inj r).2 hp)) hb,rfl⟩) hv
 obtain ⟨c2,g1,g2,g3⟩:=AK1 (S:=S') (β:=β0) (β':=β') (H:=H) (k:=[r]) (ko:=[]) (cd:=cd) hm hb hcells hv0 hw ht (by simp) (by simp)
  (fun key hk=>by show _ = (if _ then _ else _);rw [if_neg (by simpa using hk)])
  (fun key hk=>by
   have hk:(if (r :: xP p) <+: key then β key else β' key) = some b₀:=hk
   split at hk
   ·exact h.sane.inj _ _ _ hk hown
   ·exact hs.inj _ _ _ hk hown')
  (fun key hk=>hs.inj _ _ _ hk hown') hSb hchg (by simpa using hd)
 have:=g2 hj
 subst this
 have hne:∀ b,S b → b ≠ b₀:=fun b hb e=>hSb (e ▸ hSS b hb)
 refine h.mod he rfl ⟨hs.inj,hs.sep,fun k b hk=>by rw [hsz];exact hs.live k b hk,fun b hk=>by rw [hsz];exact hs.liveS b hk,hs.tabs fun b hb=>⟨hb,hchg.other b (fun e=>hSb (e ▸ hb))⟩⟩ (fun b hb=>⟨hSS b hb,hchg.other b (hne b hb)⟩)
  (fun j s b hjr ha hb=>⟨hβ1 j s b hjr ha hb,hchg.other b (fun e=>?_)⟩) ⟨c2,g3,hV⟩
 subst e
 have:=h.sane.inj _ _ _ hb hown
 rw [hs0] at this
 simp at this
 exact hjr this.1
theorem Step.store {b₀ o₀:Nat} {cd:List Value} {key:Key} (hk:β key = some b₀) (hchg:Chg w w' b₀ o₀ cd) (hsz:w'.heap.size = w.heap.size):Step w S β w' S β where
 size:=by omega
 old b hb hnot:=hchg.other b (fun e=>hnot key (e ▸ hk))
 new k b hb:=.inl ⟨k,hb⟩
 keepS _ hb:=hb
 newS _ hb:=.inl hb
 out:=hchg.out
def Bp0 (S:Nat → Prop) (β:Key → Option Nat) (k:Key):Nat → Prop:=fun b=>S b ∨ ∃ s,β (k ++ s) = some b
def BS0 (β:Key → Option Nat) (k:Key):Key → Option Nat:=fun k'=>match rX k k' with | some _=>none | none=>β k'
theorem aF {k k':Key} {b:Nat} (h:BS0 β k k' = some b):rX k k' = none ∧ β k' = some b:=by
 unfold BS0 at h;split at h
 ·cases h
 ·rename_i e;exact ⟨e,h⟩
theorem Sane.cut (h:Sane w S β) (k:Key):Sane w (Bp0 S β k) (BS0 β k) where
 tab:=h.tabs fun b hb=>⟨.inl hb,rfl⟩
 inj k1 k2 b h1 h2:=h.inj _ _ _ (aF h1).2 (aF h2).2
 sep k1 b h1 h2:=by
  obtain ⟨e,h1⟩:=aF h1
  rcases h2 with h2 | ⟨s,h2⟩
  ·exact h.sep _ _ h1 h2
  ·exact eP e s (h.inj _ _ _ h1 h2)
 live k1 b h1:=h.live _ _ (aF h1).2
 liveS b hb:=hb.elim (h.liveS b) fun ⟨s,h'⟩=>h.live _ _ h'
theorem Step.cut (k:Key):Step w S β w (Bp0 S β k) (BS0 β k) where
 size:=Nat.le_refl _
 old _ _ _:=rfl
 new _ _ hb:=.inl ⟨_,(aF hb).2⟩
 keepS _ hb:=.inl hb
 newS _ hb:=hb.elim .inl fun ⟨s,h⟩=>.inr (.inl ⟨_,h⟩)
 out:=.rfl'
theorem BN8 {k:Key} {t:Ty} {f:Fl} {x:t.D} {c:List Value} (hw:f.whole = true) (h:zP S β H w k t f x c):zP (Bp0 S β k) (BS0 β k) H w k t .sh x c:=
 yQ.2 (vW hw (fun _=>.inl) (fun s _ hb=>.inr ⟨s,hb⟩) h)
theorem aR:∀ {p:List PS} {t:Ty} {f:Fl} {x:t.D} {d d0:Dat} {y:Fl × t.D},lP p t f x d = some y → xA p t f x = some d0 → d0.t = d.t
 | [],t,f,x,d,d0,y,hm,hg=>by
  simp only [xA,Option.some.injEq] at hg;subst hg
  simp only [lP,Option.map_eq_some_iff] at hm
  obtain ⟨z,hz,_⟩:=hm
  exact (vV hz).1.symm
 | .fst :: p,.pair a b,f,x,d,d0,y,hm,hg=>by
  simp only [lP,Option.map_eq_some_iff] at hm;obtain ⟨z,hz,_⟩:=hm
  simp only [xA] at hg;exact aR hz hg
 | .snd :: p,.pair a b,f,x,d,d0,y,hm,hg=>by
  simp only [lP,Option.map_eq_some_iff] at hm;obtain ⟨z,hz,_⟩:=hm
  simp only [xA] at hg;exact aR hz hg
 | .idx i :: p,.arr n t,f,x,d,d0,y,hm,hg=>by
  simp only [lP,Option.bind_eq_some_iff] at hm;obtain ⟨z,hz,_⟩:=hm
  simp only [xA] at hg;exact aR hz hg
 | .der :: p,.ptr t,f,x,d,d0,y,hm,hg=>by
  simp only [xA] at hg
  cases f with
  | own e=>simp only [lP,Option.map_eq_some_iff] at hm;obtain ⟨z,hz,_⟩:=hm;exact aR hz hg
  | pin j g=>cases g with
   | own e=>simp only [lP,Option.map_eq_some_iff] at hm;obtain ⟨z,hz,_⟩:=hm;exact aR hz hg
   | _=>simp [lP] at hm
  | _=>simp [lP] at hm
 | .elm i :: p,.sl t,f,x,d,d0,y,hm,hg=>by
  simp only [xA] at hg
  cases f with
  | own e=>simp only [lP,Option.bind_eq_some_iff] at hm;obtain ⟨z,hz,_⟩:=hm;exact aR hz hg
  | pin j g=>cases g with
   | own e=>simp only [lP,Option.bind_eq_some_iff] at hm;obtain ⟨z,hz,_⟩:=hm;exact aR hz hg
   | _=>simp [lP] at hm
  | _=>simp [lP] at hm
theorem A8R {mv:Bool} {t:Option Ty} {x:Operand} {d:Dat} {us:List Up} {r:Nat} {e:Dat} (ht:take g mv t x (sv g x) = some (d,us)) (he:(g r).sv = .dat e):
  ((g.ups us) r).sv = .dead ∨ ∃ f,((g.ups us) r).sv = .dat ⟨e.t,e.x,f⟩:=by
 have same:((g.ups []) r).sv = .dead ∨ ∃ f,((g.ups []) r).sv = .dat ⟨e.t,e.x,f⟩:=.inr ⟨e.f,he⟩
 have dead:∀ {g1:yB} {s:Nat},((g1 r).sv = .dead ∨ ∃ f,(g1 r).sv = .dat ⟨e.t,e.x,f⟩) → ((g1.up (.put s .dead)) r).sv = .dead ∨ ∃ f,((g1.up (.put s .dead)) r).sv = .dat ⟨e.t,e.x,f⟩:=by
  intro g1 s h
  by_cases hr:r = s
  ·subst hr;left;rw [uE]
  ·rw [qX hr];exact h
 have modc:∀ {q:Nat} {e':Dat} {f:Fl},(g q).sv = .dat e' → ((g.up (.mod q (.dat ⟨e'.t,e'.x,f⟩))) r).sv = .dead ∨ ∃ f',((g.up (.mod q (.dat ⟨e'.t,e'.x,f⟩))) r).sv = .dat ⟨e.t,e.x,f'⟩:=by
  intro q e' f hq
  by_cases hr:r = q
  ·subst hr
   rw [he] at hq
   simp only [SV.dat.injEq] at hq
   subst hq
   right
   exact ⟨f,by rw [show g.up (.mod r (.dat ⟨e.t,e.x,f⟩)) r = _ from mO (u:=.mod r _)];rfl⟩
  ·rw [qL (u:=.mod q _) hr];exact same
 have pubc:∀ {q:Nat} {e':Dat} {f:Fl},(g q).sv = .dat e' → ((g.up (.pub q (.dat ⟨e'.t,e'.x,f⟩))) r).sv = .dead ∨ ∃ f',((g.up (.pub q (.dat ⟨e'.t,e'.x,f⟩))) r).sv = .dat ⟨e.t,e.x,f'⟩:=by
  intro q e' f hq
  by_cases hr:r = q
  ·subst hr
   rw [he] at hq
   simp only [SV.dat.injEq] at hq
   subst hq
   right
   exact ⟨f,by rw [show g.up (.pub r (.dat ⟨e.t,e.x,f⟩)) r = _ from mO (u:=.pub r _)];rfl⟩
  ·rw [qL (u:=.pub q _) hr];exact same
 cases hv:sv g x with
 | dead=>rw [hv] at ht;simp [take] at ht
 | und=>rw [hv] at ht;simp [take] at ht
 | unk=>rw [hv] at ht;simp [take] at ht
 | tup d=>rw [hv] at ht;simp [take] at ht
 | adr _ _ _ _=>rw [hv] at ht;simp [take] at ht
 | nils=>
  rw [hv] at ht
  simp only [take] at ht
  split at ht
  ·simp only [Option.some.injEq,Prod.mk.injEq] at ht;rw [← ht.2];exact same
  ·cases ht
 | clo f rs=>
  rw [hv] at ht
  cases rs with
  | nil=>simp only [take,Option.some.injEq,Prod.mk.injEq] at ht;rw [← ht.2];exact same
  | cons a rs=>simp [take] at ht
 | dat e=>
  rw [hv] at ht
  simp only [take] at ht
  split at ht
  ·simp only [Option.some.injEq,Prod.mk.injEq] at ht;rw [← ht.2];exact same
  ·split at ht
   ·split at ht
    ·simp only [Option.some.injEq,Prod.mk.injEq] at ht;rw [← ht.2]
     exact dead same
    ·cases ht
   ·cases ht
 | als r p c s=>
  rw [hv] at ht
  simp only [take] at ht
  split at ht
  ·split at ht
   ·rename_i e he
    split at ht
    ·split at ht
     ·simp only [Option.some.injEq,Prod.mk.injEq] at ht;rw [← ht.2];exact same
     ·split at ht
      ·split at ht <;> simp only [Option.some.injEq,Prod.mk.injEq] at ht <;> rw [← ht.2]
       ·exact modc he
       ·exact pubc he
      ·cases ht
    ·cases ht
   ·cases ht
  ·cases ht
 | pend r p c s u e=>
  rw [hv] at ht
  simp only [take] at ht
  split at ht
  ·rename_i j
   split at ht
   ·split at ht
    ·rename_i e' he
     simp only [Option.some.injEq,Prod.mk.injEq] at ht;rw [← ht.2]
     exact dead (modc he)
    ·cases ht
   ·cases ht
  ·cases ht
end
end Go.Rf

end
section
namespace Go.Rf
set_option linter.unusedSectionVars false
variable [T:Laid]
section
variable {P:Program} {H:Nat → Option (List Value)} {N:Nat} {g g' σ:yB} {V V':Nat → Option Value} {w w':World} {S S':Nat → Prop} {β β':Key → Option Nat} {a:Act} {o:Oper}
variable {E:Env} {gv:yB} {us:List Up}
theorem Step.at (h:Step w S β w S' β') (hz:w'.heap.size = w.heap.size):Step w' S β w' S' β' where
 size:=Nat.le_refl _
 old _ _ _:=rfl
 new k b hb:=by rw [hz];exact h.new k b hb
 keepS:=h.keepS
 newS b hb:=by rw [hz];exact h.newS b hb
 out:=.rfl'
theorem A3a {q:Pl} {d:Dat} {u:Up} (h:A7T g q d = some u):∃ e d' y,(g q.1).sv = .dat e ∧ lP q.2 e.t e.f e.x d' = some y ∧ u = .mod q.1 (.dat ⟨e.t,y.2,y.1⟩) ∧ (d' = d ∨ (d.f.whole = true ∧ d' = ⟨d.t,d.x,.sh⟩)):=by
 unfold A7T at h
 split at h
 ·rename_i e he
  split at h
  ·rename_i y hy
   simp only [Option.some.injEq] at h
   exact ⟨e,d,y,he,hy,h.symm,.inl rfl⟩
  ·split at h
   ·rename_i hw
    simp only [Option.map_eq_some_iff] at h
    obtain ⟨y,hy,rfl⟩:=h
    exact ⟨e,_,y,he,hy,rfl,.inr ⟨hw,rfl⟩⟩
   ·cases h
 ·cases h
theorem Ab0 {r:Nat} {p s:Key} (h:¬ p <+: s):rX (r :: p) (r :: s) = none:=by
 cases hst:rX (r :: p) (r :: s) with
 | none=>rfl
 | some s'=>
  have:=mT.1 hst
  simp only [List.cons_append,List.cons.injEq,true_and] at this
  exact absurd ⟨s',this.symm⟩ h
theorem Az9 {t:TypeId} {r:Nat} {p:List PS} {e d d':Dat} {y:Fl × e.t.D} {cr c:List Value} {t':Ty} {b₀ o₀:Nat} {β1:Key → Option Nat}
  (h:Rel H N g V w S β) (he:(g r).sv = .dat e) (hm:lP p e.t e.f e.x d' = some y) (hd':d' = d ∨ (d.f.whole = true ∧ d' = ⟨d.t,d.x,.sh⟩)) (hwh:d.f.whole = true) (hb:inB p e.t e.x)
  (hV:V r = some (yA e.t cr)) (hl:cr.length = e.t.size) (hw:uH w e.t (.reg cr) p = some (t',.mem b₀ o₀)) (ht:t' = d.t) (hty:tyN P 8 t = some d.t)
  (hs:Sane w S β1) (hst:Step w S β w S β1) (hβ1:∀ j s b,j ≠ r → (g j).sv ≠ .dead → β (j :: s) = some b → β1 (j :: s) = some b) (hβ2:∀ s b,¬ xP p <+: s → β (r :: s) = some b → β1 (r :: s) = some b)
  (hd:zP S β1 H w (r :: xP p) d.t d.f d.x c):
  ∃ w' S2 β2,(storeVar t ⟨b₀,o₀,none⟩ (yA d.t c)).run P w = .ok () w' ∧ Rel H N (g.up (.mod r (.dat ⟨e.t,y.2,y.1⟩))) V w' S2 β2 ∧ Step w S β w' S2 β2:=by
 obtain ⟨c1,hv,hV2⟩:=h.dat he
 have:=tK (Option.some.inj (hV2.symm.trans hV)) (zU hv) hl
 subst this
 have hcells:zF w e.t.size (.reg c1) = some c1:=by simp [zF,hl]
 obtain ⟨hown,q0,cs,hB,hz⟩:=AC8 (k:=[r]) (ko:=[]) hm hb hcells hv hw (by simp)
 subst ht
 have hlen:=zU hd
 obtain ⟨w',hrun,hchg,hsz⟩:=A1H (P:=P) hty hB hz hlen (A1J hwh hd)
 rcases hd' with rfl | ⟨_,rfl⟩
 ·exact ⟨w',S,β1,hrun,h.store he hm hb hV hl hw rfl hs (fun _ h=>h) hβ1 hβ2 hd hchg hsz,(Step.store hown hchg hsz).trans (hst.at hsz)⟩
 ·refine ⟨w',Bp0 S β1 (r :: xP p),BS0 β1 (r :: xP p),hrun,h.store he hm hb hV hl hw rfl (hs.cut _) (fun _ h=>.inl h) (fun j s b hj ha hb=>?_) (fun s b hs hb=>?_) (BN8 hwh hd) hchg hsz,
   (Step.store hown hchg hsz).trans ((hst.trans (.cut _)).at hsz)⟩
  ·have:=hβ1 j s b hj ha hb
   unfold BS0;rw [yF hj];exact this
  ·have:=hβ2 s b hs hb
   unfold BS0;rw [Ab0 hs];exact this
theorem A0L {ρ:Operand → Value} {t:TypeId} {x y:Operand} {ad:Addr} {v:Value} (ho:o.op = .store t x y) (hx:ρ x = .pointer (some ad)) (hy:ρ y = v) (hr:(storeVar t ad v).run P w = .ok () w'):(execOp ρ o).run P w = .ok .skip w':=by
 simp only [execOp,ho,hx,hy,Instr.storeAt,Instr.sureAddr,Sem.run_bind,Sem.run_pure,Result.andThen_ok,hr]
theorem A3m:∀ {p q:List PS} {cs:List Bool},A0A p q = some cs → (∀ c ∈ cs,c = true) → p = q
 | [],[],_,_,_=>rfl
 | [],_ :: _,_,h,_=>by simp [A0A] at h
 | _ :: _,[],_,h,_=>by simp [A0A] at h
 | a :: p,b :: q,cs,h,hc=>by
  simp only [A0A] at h
  split at h
  ·rename_i l m hl hm
   simp only [Option.some.injEq] at h;subst h
   have ih:=A3m hm (fun c h=>hc c (by simp [h]))
   subst ih
   have:a = b:=by
    cases a <;> cases b <;> simp only [PS.eqc,reduceCtorEq,Option.some.injEq] at hl <;> first
     | rfl
     | (subst hl;have:=hc _ (List.mem_append_left _ (List.mem_singleton.2 rfl));simp only [decide_eq_true_eq] at this;rw [this])
   rw [this]
  ·cases h
theorem A0J {ρ:Type} {k:Option ρ} {v:ρ}:∀ {cs:List Bool},A5I cs k = some v → (∀ c ∈ cs,c = true) ∧ k = some v
 | [],h=>⟨by simp,h⟩
 | true :: l,h=>by
  obtain ⟨h1,h2⟩:=A0J (cs:=l) h
  exact ⟨by intro c hc;rcases List.mem_cons.1 hc with rfl | hc;rfl;exact h1 c hc,h2⟩
 | false :: l,h=>by simp [A5I] at h
theorem BO1 {mv:Bool} {t:Ty}:(Fl.ne mv t).whole = true:=by
 unfold Fl.ne;split
 ·assumption
 ·rfl
theorem Ab2 {mv:Bool} {t:Option Ty} {x:Operand} {d:Dat} {us:List Up} (ht:take g mv t x (sv g x) = some (d,us)):d.f.whole = true:=by
 cases hv:sv g x with
 | dead=>rw [hv] at ht;simp [take] at ht
 | und=>rw [hv] at ht;simp [take] at ht
 | unk=>rw [hv] at ht;simp [take] at ht
 | tup d=>rw [hv] at ht;simp [take] at ht
 | adr _ _ _ _=>rw [hv] at ht;simp [take] at ht
 | nils=>
  rw [hv] at ht
  simp only [take] at ht
  split at ht
  ·simp only [Option.some.injEq,Prod.mk.injEq] at ht;rw [← ht.1]
   exact BO1
  ·cases ht
 | clo f rs=>
  rw [hv] at ht
  cases rs with
  | nil=>simp only [take,Option.some.injEq,Prod.mk.injEq] at ht;rw [← ht.1];rfl
  | cons a rs=>simp [take] at ht
 | dat e=>
  rw [hv] at ht
  simp only [take] at ht
  split at ht
  ·rename_i hf
   simp only [Option.some.injEq,Prod.mk.injEq] at ht;rw [← ht.1,uD hf];rfl
  ·split at ht
   ·rename_i hw
    split at ht
    ·simp only [Option.some.injEq,Prod.mk.injEq] at ht;rw [← ht.1];exact hw
    ·cases ht
   ·cases ht
 | als r p c s=>
  rw [hv] at ht
  simp only [take] at ht
  split at ht
  ·split at ht
   ·split at ht
    ·split at ht
     ·rename_i hf
      simp only [Option.some.injEq,Prod.mk.injEq] at ht;rw [← ht.1,uD hf];rfl
     ·split at ht
      ·rename_i hw
       split at ht <;> simp only [Option.some.injEq,Prod.mk.injEq] at ht <;> rw [← ht.1]
       ·exact hw
       ·rfl
      ·cases ht
    ·cases ht
   ·cases ht
  ·cases ht
 | pend r p c s u e=>
  rw [hv] at ht
  simp only [take] at ht
  split at ht
  ·split at ht
   ·rename_i hok
    split at ht
    ·simp only [Option.some.injEq,Prod.mk.injEq] at ht;rw [← ht.1]
     simp only [Bool.and_eq_true] at hok
     exact hok.1.2
    ·cases ht
   ·cases ht
  ·cases ht
theorem A5o:a.put none undef = a:=rfl
theorem A0E {mv:Bool} {t:TypeId} {x y:Operand} {q:Pl} {d d0:Dat} {us:List Up} {u:Up} (hc:Ctx E.P H S β a w o g) (hs:Sub gv g) (ho:o.op = .store t x y) (hdst:o.dst = none)
  (hq:dI gv x (sv gv x) = some q) (hat:atP gv q.1 q.2 = some d0) (hty:E.ty t = some d0.t) {tt:Option Ty} (ht:take gv mv tt y (sv gv y) = some (d,us)) (hu:A7T (gv.ups us) q d = some u):yM E.P H S β a w o (g.ups (us ++ [u])):=by
 obtain ⟨ht',hs'⟩:=bZ hs ht
 obtain ⟨hq',hat',hr⟩:=dQ hs hq hat
 obtain ⟨e,cr,b,oo,he,hg,hb,hV,hl,hw,hx,_⟩:=gU hc.rel hq' hat'
 obtain ⟨S1,β1,c,h1,h2,h3,h4⟩:=eU hc.rel ht' (n:=a.tmps.size) (hc.dead _ (Nat.le_refl _)) (Nat.le_refl _)
 obtain ⟨e1,d',yy,he1,hm,rfl,hd'⟩:=A3a hu
 have hq1:q.1 < a.tmps.size:=hc.dead.root he
 have he1':((g.ups us) q.1).sv = .dat e1:=by rw [hs'.get he1 (by simp)];exact he1
 have hee:∃ f,e1 = ⟨e.t,e.x,f⟩:=by
  rcases A8R ht' he with h | ⟨f,h⟩
  ·rw [he1'] at h;cases h
  ·rw [he1'] at h;simp only [SV.dat.injEq] at h;exact ⟨f,h⟩
 obtain ⟨f,rfl⟩:=hee
 have hwh:=Ab2 ht'
 obtain ⟨f1,hg1⟩:=lA (g:=f) hg
 have htyd:d0.t = d'.t:=aR (d0:=⟨d0.t,d0.x,f1⟩) hm hg1
 have htyd2:d0.t = d.t:=by
  rcases hd' with rfl | ⟨_,rfl⟩ <;> exact htyd
 let g1:yB:=(upN (g.ups us) a.tmps.size d).up (.put a.tmps.size .dead)
 have hk:Rel H a.tmps.size g1 (upd (oR a) a.tmps.size (yA d.t c)) w S1 β1:=h1.kill fun _ _=>rfl
 obtain ⟨cc,hvr,hVn⟩:=h1.dat fS
 have hcc:cc = c:=by
  simp only [upd,if_true] at hVn
  exact (tK (Option.some.inj hVn) h4 (zU hvr)).symm
 subst hcc
 have hg1r:(g1 q.1).sv = .dat ⟨e.t,e.x,f⟩:=by
  show (((upN (g.ups us) a.tmps.size d).up (.put a.tmps.size .dead)) q.1).sv = _
  rw [qX (by omega),fN (by omega)];exact he1'
 have hV1:(upd (oR a) a.tmps.size (yA d.t cc)) q.1 = some (yA e.t cr):=by
  simp only [upd];rw [if_neg (by omega)];exact hV
 have hn1:∀ j,(g1 j).sv ≠ .dead → j ≠ a.tmps.size:=fun j hj e'=>by
  subst e';exact hj (by show (((upN (g.ups us) a.tmps.size d).up (.put a.tmps.size .dead)) a.tmps.size).sv = _;rw [uE])
 obtain ⟨w',S2,β2,hrun,hrel,hstep⟩:=Az9 (P:=E.P) (t:=t) hk hg1r hm hd' hwh hb hV1 hl hw htyd2 (by rw [← htyd2];exact hty) (hk.sane.rekey [a.tmps.size] (q.1 :: xP q.2)) (.rekey _ _)
  (fun j s b hj ha hbb=>by rw [wZ (yF hj) (yF (hn1 j ha))];exact hbb)
  (fun s b hsp hbb=>by rw [wZ (Ab0 hsp) (yF (by omega))];exact hbb) (oZ hvr)
 intro K Q hK
 have hy:a.eval y = yA d.t cc:=zJ h3
 refine A6k (A0L ho (zJ hx) hy hrun) ?_
 rw [hdst,A5o]
 refine hK a w' S2 β2 rfl rfl ?_ (h2.trans hstep)
 rw [xB]
 have hD:yK a.tmps.size (g.ups us):=hc.dead.ups fun u hu=>hc.dead.lt (eN ht' u hu)
 refine hrel.fin (fun i hi=>?_) (hD.up hq1) (fun i hi=>?_)
 ·show ((g.ups us).up _) i = (g1.up _) i
  have hgi:g1 i = (g.ups us) i:=by
   show ((upN (g.ups us) a.tmps.size d).up (.put a.tmps.size .dead)) i = _
   rw [qX (by omega),fN (by omega)]
  by_cases e':i = q.1
  ·subst e'
   rw [show (g.ups us).up (.mod q.1 _) q.1 = _ from mO (u:=.mod q.1 _),show g1.up (.mod q.1 _) q.1 = _ from mO (u:=.mod q.1 _)]
   show Up.on _ ((g.ups us) q.1) = Up.on _ (g1 q.1)
   rw [hgi]
  ·rw [qL (u:=.mod q.1 _) e',qL (u:=.mod q.1 _) e',hgi]
 ·simp only [upd];rw [if_neg (by omega)]
theorem A34 {q:Pl} {t:Ty} (h:A2v g q = some t):∃ d,atP g q.1 q.2 = some d ∧ d.t = t:=by
 unfold A2v at h
 simp only [Option.map_eq_some_iff] at h
 exact h
theorem A2R {mv:Bool} {t:TypeId} {x y:Operand} (hc:Ctx E.P H S β a w o g) (hs:Sub gv g) (hm:o.op = .store t x y)
  (hk:A0N gv mv o (E.ty t) x y some = some us):yM E.P H S β a w o (g.ups us):=by
 unfold A0N at hk
 split at hk
 ·rename_i q hdst hq
  split at hk
  ·rename_i hta
   simp only [Bool.and_eq_true,decide_eq_true_eq] at hta
   obtain ⟨hta,hsome⟩:=hta
   obtain ⟨τ,hτ⟩:=Option.isSome_iff_exists.1 hsome
   rw [hτ] at hta
   obtain ⟨d0,hat,rfl⟩:=A34 hta
   split at hk
   ·rename_i j r p c s u d hy
    split at hk
    ·rename_i cs hcs
     split at hcs
     ·rename_i hcond
      simp only [Bool.and_eq_true,Bool.not_eq_true',Nat.beq_eq] at hcond
      obtain ⟨⟨⟨hrq,hok⟩,hwh⟩,hjq⟩:=hcond
      split at hk
      ·rename_i uu hu
       obtain ⟨hall,hk⟩:=A0J hk
       simp only [Option.some.injEq] at hk;subst hk
       have hpq:=A3m hcs hall
       have hjq:j ≠ q.1:=fun e=>by rw [e] at hjq;simp at hjq
       obtain ⟨hq',hat',hr⟩:=dQ hs hq hat
       obtain ⟨e,cr,b,oo,he,hg,hb,hV,hl,hw,hx,_⟩:=gU hc.rel hq' hat'
       obtain ⟨e1,d',yy,he1,hmm,rfl,hd'⟩:=A3a hu
       have:e1 = e:=by rw [← hr,he] at he1;simp only [SV.dat.injEq] at he1;exact he1.symm
       subst this
       have htyd:d0.t = d'.t:=aR hmm hg
       have htyd2:d0.t = d.t:=by rcases hd' with rfl | ⟨_,rfl⟩ <;> exact htyd
       have hj:(g j).sv = .pend r p c s u d:=hs.sv hy (by simp)
       have hss:=hc.rel.slots j
       rw [hj] at hss
       obtain ⟨h0,_,_,_,h4⟩:=hss
       subst hrq
       subst hpq
       obtain ⟨_,β2,cc,hβ2,hvr,hVj⟩:=h4 (by rw [Sub.okU hr];exact hok) e1 he
       have hk1:Rel H a.tmps.size (g.up (.put j .dead)) (oR a) w S β:=hc.rel.kill fun _ _=>rfl
       have hd1:((g.up (.put j .dead)) j).sv = .dead:=by rw [uE]
       have hd2:((g.up (.put j .dead)) q.1).sv = .dat e1:=by rw [qX (Ne.symm hjq)];exact he
       obtain ⟨hsane,hkeep⟩:=hk1.repl hβ2 hd1 hd2
       obtain ⟨w',S2,β3,hrun,hrel,hstep⟩:=Az9 (P:=E.P) (t:=t) hk1 hd2 hmm hd' hwh hb hV hl hw htyd2 (by rw [← htyd2];exact hτ) hsane (A7t.repl_or hβ2 hc.rel.sane).2 hkeep
        (fun s b hsp hbb=>by
         rcases hβ2 with rfl | ⟨b2,hb2,rfl⟩
         ·exact hbb
         ·unfold repl
          rw [if_neg (fun e3=>hsp (by simp only [List.cons.injEq,true_and] at e3;rw [e3];exact List.prefix_rfl)),if_neg (by simp [Ne.symm hjq])];exact hbb) hvr
       intro K Q hK
       have hjN:=hc.dead.lt (show (g j).sv ≠ .dead by rw [hj];simp)
       have hyv:a.eval (.tmp j) = yA d.t cc:=zJ (x:=.tmp j) hVj
       refine A6k (A0L hm (zJ hx) hyv hrun) ?_
       rw [hdst,A5o]
       exact hK a w' S2 β3 rfl rfl hrel hstep
      ·cases hk
     ·cases hcs
    ·rename_i hnone
     split at hk
     ·rename_i d' us' ht
      split at hk
      ·rename_i u' hu
       simp only [Option.some.injEq] at hk;subst hk
       rw [← hy] at ht
       exact A0E hc hs hm hdst hq hat hτ ht hu
      ·cases hk
     ·cases hk
   ·split at hk
    ·rename_i d' us' ht
     split at hk
     ·rename_i u' hu
      simp only [Option.some.injEq] at hk;subst hk
      exact A0E hc hs hm hdst hq hat hτ ht hu
     ·cases hk
    ·cases hk
  ·cases hk
 ·cases hk
theorem A1u {mv:Bool} {t:Option Ty} {x:Operand} (hc:Ctx P H S β a w o g) (hs:Sub gv g) (hm:o.op = .assign x)
  (hk:Ab6 gv mv o t x some = some us):yM P H S β a w o (g.ups us):=by
 have hr:=A6H (P:=P) (w:=w) (a:=a) (.inr hm)
 have tk:∀ {d us dd},take gv mv t x (sv gv x) = some (d,us) → o.dst = some dd → yM P H S β a w o (g.ups (us ++ [.put dd (.dat d)])):=fun ht ho=>
  Bb2 hc hs ht ho (fun v hv=>by rw [← hv];exact hr)
 unfold Ab6 at hk
 split at hk
 ·obtain ⟨dd,ho,rfl⟩:=yN hk
  exact AZ8 hc.rel hc.dead ho (xS hc.opIn ho) hr trivial
 rename_i hnn;clear hnn
 split at hk
 ·rename_i r p c s hx
  obtain ⟨dd,ho,rfl⟩:=yN hk
  obtain ⟨i,rfl,hi⟩:=tH (hs.sv hx (by simp)) (by simp) (by simp) (by simp)
  exact A1G hc hi (lU (hc.dead.lt (by rw [hi];simp))) ho hr
 ·rename_i f rs hx
  obtain ⟨dd,ho,rfl⟩:=yN hk
  obtain ⟨i,rfl,hi⟩:=tH (hs.sv hx (by simp)) (by simp) (by simp) (by simp)
  have hss:=hc.rel.slots i
  rw [hi] at hss
  obtain ⟨h1,h2⟩:=hss
  refine AZ8 hc.rel hc.dead ho (xS hc.opIn ho) hr (A4c h1 ?_)
  rw [lU (hc.dead.lt (by rw [hi];simp))] at h2
  exact h2
 ·rename_i r p c s u d hx
  split at hk
  ·rename_i j e ho
   split at hk
   ·rename_i hcond
    simp only [Bool.and_eq_true,Bool.not_eq_true',Nat.beq_eq] at hcond
    obtain ⟨⟨⟨⟨hre,hp⟩,hok⟩,hdat⟩,hje⟩:=hcond
    simp only [Option.some.injEq] at hk;subst hk
    subst hre
    have hp:p = []:=by simpa using hp
    subst hp
    have hje:j ≠ r:=fun e=>by rw [e] at hje;simp at hje
    have hj:(g j).sv = .pend r [] c s u d:=hs.sv hx (by simp)
    have hss:=hc.rel.slots j
    rw [hj] at hss
    obtain ⟨h0,_,_,_,h4⟩:=hss
    have hd:=xS hc.opIn ho
    intro K Q hK
    have hk1:Rel H a.tmps.size (g.up (.put j .dead)) (oR a) w S β:=hc.rel.kill fun _ _=>rfl
    have hjN:=hc.dead.lt (show (g j).sv ≠ .dead by rw [hj];simp)
    unfold BO6 at hdat
    split at hdat
    ·rename_i dr hdr
     have hrr:=hs.get hdr (by simp)
     have hdr':(g r).sv = .dat dr:=by rw [hrr];exact hdr
     obtain ⟨_,β2,cc,hβ2,hvr,hVj⟩:=h4 (by rw [Sub.okU hrr];exact hok) dr hdr'
     have hd1:((g.up (.put j .dead)) j).sv = .dead:=by rw [uE]
     have hd2:((g.up (.put j .dead)) r).sv = .dat dr:=by rw [qX (Ne.symm hje)];exact hdr'
     obtain ⟨hsane,hkeep⟩:=hk1.repl hβ2 hd1 hd2
     refine tX hr (hK _ _ S β2 vC yW ?_ (A7t.repl_or hβ2 hc.rel.sane).2)
     rw [ho,uF hd,zJ (x:=.tmp j) hVj]
     exact hk1.finish (fun _ _=>rfl) (hc.dead.up hjN) (fun _ _=>rfl) hd hsane (fun b hb=>⟨hb,rfl⟩) (fun i s b hi ha hb=>⟨hkeep i s b hi ha hb,rfl⟩) ⟨cc,by simpa [xP] using hvr,by simp [upd]⟩
    ·cases hdat
   ·split at hk
    ·rename_i d' us' ht
     simp only [Option.some.injEq] at hk;subst hk
     rw [← hx] at ht
     exact tk ht ho
    ·cases hk
  ·cases hk
 ·split at hk
  ·rename_i d' us' ht
   obtain ⟨dd,ho,rfl⟩:=yN hk
   exact tk ht ho
  ·cases hk
end
end Go.Rf

end
section
namespace Go.Rf
set_option linter.unusedSectionVars false
variable [T:Laid]
section
variable {P:Program} {H:Nat → Option (List Value)} {N:Nat} {g g' σ:yB} {V V':Nat → Option Value} {w w':World} {S S':Nat → Prop} {β β':Key → Option Nat} {a:Act} {o:Oper}
variable {E:Env} {gv:yB} {us:List Up}
theorem A0m {k:Nat} {z:List Value → Bool} (hz:∀ c,z c = true → c.length = k):∀ {n:Nat} {c:List Value},nL.zarr k z n c = true → c.length = n * k ∧ ∀ i,i < n → z (win c (i * k) k) = true
 | 0,c,h=>by
  simp only [nL.zarr,List.isEmpty_iff] at h;subst h
  exact ⟨by simp,fun i hi=>by omega⟩
 | n + 1,c,h=>by
  simp only [nL.zarr,Bool.and_eq_true] at h
  obtain ⟨h1,h2⟩:=h
  obtain ⟨h3,h4⟩:=A0m hz h2
  have h5:=hz _ h1
  simp only [List.length_take,List.length_drop] at h3 h5
  have hlen:c.length = (n + 1) * k:=by rw [Nat.add_mul];omega
  refine ⟨hlen,fun i hi=>?_⟩
  cases i with
  | zero=>simpa [win] using h1
  | succ i=>
   have:=h4 i (by omega)
   unfold win at this ⊢
   rw [List.drop_drop] at this
   rw [Nat.add_mul,Nat.one_mul,Nat.add_comm (i * k) k];exact this
theorem eR {t:Ty} {c:List Value} (ht:t.agg = false) (h:nL t c = true):∃ v,c = [v] ∧ BI5 t v = true:=by
 cases t <;> simp [Ty.agg] at ht <;> (cases c with
  | nil=>simp [nL] at h
  | cons v l=>cases l with
   | nil=>exact ⟨v,rfl,by simpa [nL] using h⟩
   | cons _ _=>simp [nL] at h)
theorem pA (deep:Bool):∀ {τ:Ty} {c:List Value} {k:Key},nL τ c = true → zP S β H w k τ (Fl.nw deep τ) τ.dflt c
 | .int i,c,k,h=>by
  obtain ⟨v,hv0,hz⟩:=eR rfl h
  replace h:=hz;clear hz;subst hv0
  cases v <;> first | (exfalso;simp [BI5] at h;done) | skip
  simp only [BI5,Bool.and_eq_true,decide_eq_true_eq] at h
  obtain ⟨rfl,rfl⟩:=h
  cases deep <;> simp [zP,Fl.nw,Fl.full,Fl.half,Fl.base,nQ,Fl.pins,Rd,Ty.dflt]
 | .bool,c,k,h=>by
  obtain ⟨v,hv0,hz⟩:=eR rfl h
  replace h:=hz;clear hz;subst hv0
  cases v <;> first | (exfalso;simp [BI5] at h;done) | skip
  simp only [BI5,Bool.not_eq_true'] at h
  subst h
  cases deep <;> simp [zP,Fl.nw,Fl.full,Fl.half,Fl.base,nQ,Fl.pins,Rd,Ty.dflt]
 | .str,c,k,h=>by
  obtain ⟨v,hv0,hz⟩:=eR rfl h
  replace h:=hz;clear hz;subst hv0
  cases v <;> first | (exfalso;simp [BI5] at h;done) | skip
  simp only [BI5,List.isEmpty_iff] at h
  rename_i s
  have:s = ⟨⟨[]⟩⟩:=by apply ByteArray.ext;apply Array.toList_inj.1;rw [h]
  subst this
  cases deep <;> simp [zP,Fl.nw,Fl.full,Fl.half,Fl.base,nQ,Fl.pins,Rd,Ty.dflt]
 | .fn,c,k,h=>by
  obtain ⟨v,hv0,hz⟩:=eR rfl h
  replace h:=hz;clear hz;subst hv0
  cases v <;> first | (exfalso;simp [BI5] at h;done) | skip
  cases deep <;> simp [zP,Fl.nw,Fl.full,Fl.half,Fl.base,nQ,Fl.pins,Rd,Ty.dflt,A10]
 | .unit,c,k,h=>by
  simp only [nL,List.isEmpty_iff] at h;subst h
  cases deep <;> simp [zP,Fl.nw,Fl.full,Fl.half,Fl.base,nQ,Fl.pins,Rd]
 | .sl t,c,k,h=>by
  obtain ⟨v,hv0,hz⟩:=eR rfl h
  replace h:=hz;clear hz;subst hv0
  have:v = .slice none 0 0:=by
   unfold BI5 at h
   split at h <;> first | rfl | (rename_i e _;cases e) | (rename_i e;cases e) | (cases h) | skip
   all_goals simp_all
  subst this
  cases deep <;> (simp only [zP,Fl.nw,Fl.full,Fl.half,Fl.base,nQ,Fl.pins,Ty.dflt];exact ⟨by simp,none,0,rfl,by simp,.inl rfl⟩)
 | .ptr t,c,k,h=>by
  obtain ⟨v,hv0,hz⟩:=eR rfl h
  replace h:=hz;clear hz;subst hv0
  cases deep <;> simp [zP,Fl.nw,Fl.full,Fl.half,Fl.base,nQ,Fl.pins]
 | .arr n t,c,k,h=>by
  simp only [nL] at h
  obtain ⟨h1,h2⟩:=A0m (fun c hc=>zU (pA deep (k:=[]) hc)) h
  have:Fl.nw deep (.arr n t) = .mkar (Fl.nw deep t):=by cases deep <;> rfl
  rw [this,AJ5]
  refine ⟨by simp [Ty.dflt],h1,fun i y hy=>?_⟩
  have hy':(List.replicate n t.dflt)[i]? = some y:=hy
  rw [List.getElem?_replicate] at hy'
  split at hy'
  ·rename_i hi
   simp only [Option.some.injEq] at hy';subst hy'
   exact pA deep (h2 i hi)
  ·cases hy'
 | .pair s u,c,k,h=>by
  simp only [nL,Bool.and_eq_true] at h
  have:Fl.nw deep (.pair s u) = .mkpr (Fl.nw deep s) (Fl.nw deep u):=by cases deep <;> rfl
  rw [this,qN]
  exact ⟨pA deep h.1,pA deep h.2⟩
structure Pushed (w w':World) (ob:Obj):Prop where
 heap:w'.heap = w.heap.push ob
 out:SameOut w w'
def Ad5 (β:Key → Option Nat) (k:Key) (b:Nat):Key → Option Nat:=fun k'=>if k' = k then some b else β k'
theorem sU {ob:Obj} (hw:Pushed w w' ob) {b:Nat} (hb:b < w.heap.size):w'.heap[b]? = w.heap[b]?:=by
 rw [hw.heap,Array.getElem?_push,if_neg (by omega)]
theorem Bj0 {ob:Obj} (hw:Pushed w w' ob):w'.heap[w.heap.size]? = some ob:=by rw [hw.heap];simp
theorem Al2 {ob:Obj} (hw:Pushed w w' ob):w'.heap.size = w.heap.size + 1:=by rw [hw.heap];simp
theorem Sane.new {ob:Obj} (h:Sane w S β) (hw:Pushed w w' ob) (k:Key):Sane w' S (Ad5 β k w.heap.size) where
 tab:=h.tabs fun b hb=>⟨hb,sU hw (h.liveS b hb)⟩
 inj k1 k2 b h1 h2:=by
  unfold Ad5 at h1 h2
  split at h1 <;> split at h2
  ·rename_i e1 e2;rw [e1,e2]
  ·cases h1;have:=h.live _ _ h2;omega
  ·cases h2;have:=h.live _ _ h1;omega
  ·exact h.inj _ _ _ h1 h2
 sep k1 b h1 h2:=by
  unfold Ad5 at h1
  split at h1
  ·cases h1;have:=h.liveS _ h2;omega
  ·exact h.sep _ _ h1 h2
 live k1 b h1:=by
  rw [Al2 hw]
  unfold Ad5 at h1
  split at h1
  ·cases h1;omega
  ·have:=h.live _ _ h1;omega
 liveS b hb:=by rw [Al2 hw];have:=h.liveS b hb;omega
theorem Step.newB {ob:Obj} (hw:Pushed w w' ob) (k:Key):Step w S β w' S (Ad5 β k w.heap.size) where
 size:=by rw [Al2 hw];omega
 old b hb _:=sU hw hb
 new k1 b h1:=by
  unfold Ad5 at h1
  split at h1
  ·cases h1;exact .inr (Nat.le_refl _)
  ·exact .inl ⟨_,h1⟩
 keepS _ hb:=hb
 newS _ hb:=.inl hb
 out:=hw.out
theorem AF7.new {q:Bool} {cs:Array Value} {e:TypeId} {fz:Nat × Nat} (hw:Pushed w w' (.cells cs e fz)) (hf:fz = (0,0) ∨ (q = true ∧ cs.size ≤ fz.1)):AF7 q w' w.heap.size cs:=by
 refine ⟨e,fz,Bj0 hw,fun o ho h=>?_,hf.elim .inr fun h=>.inl h.1⟩
 rcases hf with rfl | hf
 ·exact absurd h.2 (Nat.not_lt_zero _)
 ·exact absurd h.1 (by omega)
theorem A9Y {d:Nat} {v:SV} {val:Value} {ob:Obj} (hc:Ctx P H S β a w o g) (ho:o.dst = some d) (hr:(execOp a.eval o).run P w = .ok (.value val) w') (hw:Pushed w w' ob)
  (hn:pU H a.tmps.size (g.up (.put d v)) (upd (oR a) d val) w' S (Ad5 β [d] w.heap.size) d v):yM P H S β a w o (g.ups [.put d v]):=by
 intro K Q hK
 have hd:=xS hc.opIn ho
 refine tX hr (hK _ _ S _ vC yW ?_ (Step.newB hw [d]))
 rw [ho,uF hd]
 exact hc.rel.finish (fun _ _=>rfl) hc.dead (fun _ _=>rfl) hd (hc.rel.sane.new hw [d]) (fun b hb=>⟨hb,sU hw (hc.rel.sane.liveS b hb)⟩)
  (fun j s b hj _ hb=>⟨by unfold Ad5;rw [if_neg (by simp [hj])];exact hb,sU hw (hc.rel.sane.live _ b hb)⟩) hn
theorem A9m {t:TypeId} {τ:Ty} (h:E.tz t = some τ):E.ty t = some τ ∧ ∃ z,(∀ w,(zeroValue t).run E.P w = .ok z w) ∧ nL τ z.cells.toList = true:=by
 unfold Env.tz at h
 split at h
 ·rename_i τ' ht
  split at h
  ·rename_i hz
   simp only [Option.some.injEq] at h;subst h
   refine ⟨ht,?_⟩
   unfold Env.zok at hz
   split at hz
   ·rename_i i hi
    split at hz
    ·rename_i v hv
     exact ⟨v,fun w=>by unfold zeroValue;simp [uN hi,hv],hz⟩
    ·cases hz
   ·cases hz
  ·cases h
 ·cases h
theorem A2A {mv:Bool} {t:TypeId} (hc:Ctx E.P H S β a w o g) (hm:o.op = .alloc t)
  (hk:Ax5 E mv o t some = some us):yM E.P H S β a w o (g.ups us):=by
 unfold Ax5 at hk
 split at hk
 ·rename_i τ ht
  obtain ⟨d,ho,rfl⟩:=yN hk
  obtain ⟨hty,z,hz,hzc⟩:=A9m ht
  have hlen:=zU (pA (S:=S) (β:=β) (H:=H) (w:=w) mv (k:=[]) hzc)
  refine A9Y (w':={ w with heap:=w.heap.push (.cells z.cells t) }) (val:=.pointer (some ⟨w.heap.size,0,none⟩)) hc ho ?_ ⟨rfl,rfl,rfl,rfl⟩ ?_
  ·simp [execOp,hm,Instr.alloc,hz,newVar,newRow]
  ·refine ⟨[.pointer (some ⟨w.heap.size,0,none⟩)],?_,by simp [upd,yA,Ty.agg]⟩
   simp only [zP,Fl.base]
   exact ⟨by simp [nQ,Fl.pins],w.heap.size,z.cells,rfl,by simp [Ad5],AF7.new ⟨rfl,rfl,rfl,rfl⟩ (.inl rfl),by simpa using hlen,pA mv hzc⟩
 ·cases hk
theorem A7Y {mv:Bool} {t:TypeId} {x:Operand} (hc:Ctx E.P H S β a w o g) (hs:Sub gv g) (hm:o.op = .box t x)
  (hk:Bg4 E gv mv o t x some = some us):yM E.P H S β a w o (g.ups us):=by
 unfold Bg4 at hk
 split at hk
 ·rename_i τ d us' ht hti
  split at hk
  ·rename_i hty
   subst hty
   obtain ⟨dd,ho,rfl⟩:=yN hk
   obtain ⟨ht',_⟩:=bZ hs hti
   obtain ⟨S1,β1,c,h1,h2,h3,h4⟩:=eU hc.rel ht' (n:=a.tmps.size) (hc.dead _ (Nat.le_refl _)) (Nat.le_refl _)
   have hwh:=Ab2 ht'
   have hd:=xS hc.opIn ho
   have hD:yK a.tmps.size (g.ups us'):=hc.dead.ups fun u hu=>hc.dead.lt (eN ht' u hu)
   obtain ⟨cc,hvr,hVn⟩:=h1.dat fS
   have hcc:cc = c:=by
    simp only [upd,if_true] at hVn
    exact (tK (Option.some.inj hVn) h4 (zU hvr)).symm
   subst hcc
   have hone:=A1J hwh hvr
   let w':World:={ w with heap:=w.heap.push (.cells (yA d.t cc).cells t) }
   have hw':Pushed w w' (.cells (yA d.t cc).cells t):=⟨rfl,rfl,rfl,rfl⟩
   have hr:(execOp a.eval o).run E.P w = .ok (.value (.pointer (some ⟨w.heap.size,0,none⟩))) w':=by
    simp [execOp,hm,Instr.box,zJ h3,newVar,newRow,w']
   intro K Q hK
   have hk1:Rel H a.tmps.size ((upN (g.ups us') a.tmps.size d).up (.put a.tmps.size .dead)) (upd (oR a) a.tmps.size (yA d.t cc)) w S1 β1:=h1.kill fun _ _=>rfl
   have hsane:=(hk1.sane.rekey [a.tmps.size] [dd,0]).new hw' [dd]
   refine tX hr (hK _ _ S1 _ vC yW ?_ (h2.trans ((Step.rekey [a.tmps.size] [dd,0]).trans (Step.newB hw' [dd]))))
   rw [ho,uF hd,xB]
   refine hk1.finish (fun i hi=>by rw [qX (by omega),fN (by omega)]) hD (fun i hi=>by simp only [upd];rw [if_neg (by omega)]) hd hsane (fun b hb=>⟨hb,sU hw' (hk1.sane.liveS b hb)⟩)
    (fun j s b hj ha hb=>⟨?_,sU hw' (hk1.sane.live _ b hb)⟩) ?_
   ·have hjn:j ≠ a.tmps.size:=fun e'=>by subst e';exact ha (by rw [uE])
    unfold Ad5
    rw [if_neg (by simp [hj]),wZ (by simp [rX,Ne.symm hj]) (yF hjn)];exact hb
   ·refine ⟨[.pointer (some ⟨w.heap.size,0,none⟩)],?_,by simp [upd,yA,Ty.agg]⟩
    simp only [zP,Fl.base]
    refine ⟨by simp [nQ,Fl.pins],w.heap.size,(yA d.t cc).cells,rfl,by simp [Ad5],AF7.new hw' (.inl rfl),?_,?_⟩
    ·rw [AB0 h4 hone];simp [h4]
    ·rw [AB0 h4 hone]
     refine zL (fun b hb=>⟨hb,sU hw' (hk1.sane.liveS b hb)⟩) (fun s b hb=>⟨?_,sU hw' (hk1.sane.live _ b hb)⟩) hvr
     have:Ad5 (rekey β1 [a.tmps.size] [dd,0]) [dd] w.heap.size ([dd] ++ [0] ++ s) = rekey β1 [a.tmps.size] [dd,0] ([dd,0] ++ s):=by
      unfold Ad5;rw [if_neg (by simp)];rfl
     rw [this,Ap0];exact hb
  ·cases hk
 ·cases hk
end
end Go.Rf

end
section
namespace Go.Rf
set_option linter.unusedSectionVars false
variable [T:Laid]
section
variable {P:Program} {H:Nat → Option (List Value)} {N:Nat} {g g' σ:yB} {V V':Nat → Option Value} {w w':World} {S S':Nat → Prop} {β β':Key → Option Nat} {a:Act} {o:Oper}
variable {E:Env} {gv:yB} {us:List Up}
theorem cO {x:Operand} (hs:Sub gv g) (h:publish gv x (sv gv x) = some us):publish g x (sv g x) = some us ∧ Sub (gv.ups us) (g.ups us) ∧ ∀ u ∈ us,(g u.slot).sv ≠ .dead:=by
 cases hv:sv gv x with
 | dat e=>
  rw [hs.sv hv (by simp)];rw [hv] at h
  refine ⟨h,?_⟩
  simp only [publish] at h
  split at h
  ·simp only [Option.some.injEq] at h;subst h;exact ⟨hs,by simp⟩
  ·split at h
   ·split at h
    ·rename_i s
     simp only [Option.some.injEq] at h;subst h
     have he:(gv s).sv = .dat e:=hv
     exact ⟨hs.up (u:=.pub s _) (by simp [Up.slot,he]),by simp [Up.slot,hs.get he (by simp),he]⟩
    ·cases h
   ·cases h
 | als r p c s=>
  rw [hs.sv hv (by simp)];rw [hv] at h
  simp only [publish] at h ⊢
  split at h
  ·rename_i hok
   split at h
   ·rename_i e he
    have hr:=hs.get he (by simp)
    rw [Sub.okA hr,hok,hr,he]
    refine ⟨h,?_⟩
    split at h
    ·split at h
     ·simp only [Option.some.injEq] at h;subst h;exact ⟨hs,by simp⟩
     ·split at h
      ·simp only [Option.some.injEq] at h;subst h
       exact ⟨hs.up (u:=.pub r _) (by simp [Up.slot,he]),by simp [Up.slot,hr,he]⟩
      ·cases h
    ·cases h
   ·cases h
  ·cases h
 | clo f rs=>
  rw [hs.sv hv (by simp)];rw [hv] at h
  cases rs with
  | nil=>refine ⟨h,?_⟩;simp only [publish,Option.some.injEq] at h;subst h;exact ⟨hs,by simp⟩
  | cons _ _=>simp [publish] at h
 | _=>rw [hv] at h;simp [publish] at h
theorem AA6 {x:Operand} {d:Dat} (h:Rel H N g V w S β) (hp:publish g x (sv g x) = some us) (hd:yV g (sv g x) = some d):
  ∃ S1 β1 c,Rel H N (g.ups us) V w S1 β1 ∧ Step w S β w S1 β1 ∧ evl V x = some (yA d.t c) ∧ Rd S1 w d.t d.x c:=by
 cases hv:sv g x with
 | dat e=>
  rw [hv] at hp hd
  simp only [yV] at hd
  split at hd
  ·rename_i hw
   simp only [Option.some.injEq] at hd;subst hd
   simp only [publish] at hp
   split at hp
   ·rename_i hf
    simp only [Option.some.injEq] at hp;subst hp
    have hf:=uD hf
    rcases mZ h hv with ⟨s,rfl,hs⟩ | ⟨_,c,hc,hrd⟩
    ·obtain ⟨c,hvr,hV⟩:=h.dat hs
     rw [hf,yQ] at hvr
     exact ⟨S,β,c,h,.refl,hV,hvr⟩
    ·exact ⟨S,β,c,h,.refl,hc,hrd⟩
   ·split at hp
    ·rename_i s
     simp only [Option.some.injEq] at hp;subst hp
     have he:(g s).sv = .dat e:=hv
     obtain ⟨c,hvr,hV⟩:=h.dat he
     exact ⟨_,_,c,h.publish (p:=[]) he rfl hw,.pub _ _ _,hV,A1A (p:=[]) (e:=e) (d:=e) rfl hw (by simpa [xP] using hvr)⟩
    ·cases hp
  ·cases hd
 | als r p c s=>
  rw [hv] at hp hd
  obtain ⟨i,rfl,hi⟩:=tH hv (by simp) (by simp) (by simp)
  simp only [yV] at hd
  split at hd
  ·rename_i hok
   split at hd
   ·rename_i e0 hat
    split at hd
    ·rename_i hw
     simp only [Option.some.injEq] at hd;subst hd
     obtain ⟨e,he,hg⟩:=gR hat
     obtain ⟨_,hb,hnd,cr,L,c',k1,k2,k3,k4,k5,k6,k7⟩:=h.als hi hok he hg
     simp only [publish,hok,if_true,he,hg] at hp
     split at hp
     ·rename_i hf
      simp only [Option.some.injEq] at hp;subst hp
      rw [uD hf,yQ] at k6
      exact ⟨S,β,c',h,.refl,k7,k6⟩
     ·simp only [Option.some.injEq] at hp;subst hp
      exact ⟨_,_,c',h.publish he hg hw,.pub _ _ _,k7,A1A hg hw k6⟩
    ·cases hd
   ·cases hd
  ·cases hd
 | clo f rs=>
  rw [hv] at hp hd
  cases rs with
  | nil=>
   simp only [publish,Option.some.injEq] at hp;subst hp
   obtain ⟨c,hc,hrd⟩:=rJ h (x:=x) (d:=d) (by rw [hv];exact hd)
   simp only [yV,bP,Option.map_some,Option.some.injEq] at hd
   subst hd
   refine ⟨S,β,c,h,.refl,hc,?_⟩
   simp only [Rd,A10,nW] at hrd ⊢
   exact hrd
  | cons _ _=>simp [publish] at hp
 | _=>rw [hv] at hp;simp [publish] at hp
theorem AL1 {x:Option Operand} {dflt:Nat} {κ:Nat → Option (List Up)} (hc:Ctx P H S β a w o g) (hs:Sub gv g) (h:AU7 (x.map (sv gv)) dflt κ = some us):
  ∃ n,κ n = some us ∧ ((x = none ∧ n = dflt) ∨ ∃ op k i,x = some op ∧ a.eval op = .int k i ∧ 0 ≤ i ∧ n = i.toNat):=by
 cases x with
 | none=>exact ⟨dflt,h,.inl ⟨rfl,rfl⟩⟩
 | some op=>
  simp only [Option.map_some] at h
  unfold AU7 at h
  split at h
  ·rename_i e;cases e
  ·rename_i k i e
   simp only [Option.some.injEq] at e
   simp only [Bool.cond_eq_ite] at h
   split at h
   ·rename_i h1
    simp only [zA,decide_eq_true_eq] at h1
    exact ⟨_,h,.inr ⟨op,k,i,rfl,zJ (dV hc.rel (hs.sv e (by simp)) gY),h1,rfl⟩⟩
   ·cases h
  ·cases h
theorem AH3 {isSl:Bool} {len cap l h:Nat} {lo hi:Option Operand} {ρ:Operand → Value} (hh:(hi = none ∧ h = len) ∨ ∃ op k i,hi = some op ∧ ρ op = .int k i ∧ 0 ≤ i ∧ h = i.toNat)
  (hl:(lo = none ∧ l = 0) ∨ ∃ op k i,lo = some op ∧ ρ op = .int k i ∧ 0 ≤ i ∧ l = i.toNat) (h1:h ≤ cap) (h2:l ≤ h):
  (Instr.sliceBounds isSl len cap (lo.map ρ) (hi.map ρ) none).run P w = .ok (l,h,cap) w:=by
 have b:∀ (k:IntKind) (i:Int) (y:Nat) (c:BoundsCode),0 ≤ i → i.toNat ≤ y → (Instr.sliceBound (.int k i) y c).run P w = .ok i.toNat w:=fun k i y c hi hy=>by
  simp only [Instr.sliceBound,asIntOf,Sem.run_bind,Sem.run_pure,Result.andThen_ok]
  rw [if_pos ⟨hi,by omega⟩,Sem.run_pure]
 unfold Instr.sliceBounds
 rcases hh with ⟨rfl,rfl⟩ | ⟨op,k,i,rfl,ho,hi,rfl⟩ <;> rcases hl with ⟨rfl,rfl⟩ | ⟨op',k',i',rfl,ho',hi',rfl⟩
 ·simp
 ·simp [ho',b k' i' _ _ hi' h2]
 ·simp [ho,b k i _ _ hi h1]
 ·simp [ho,ho',b k i _ _ hi h1,b k' i' _ _ hi' h2]
theorem Ax4 {ρ:Operand → Value} {t:TypeId} {x:Operand} {lo hi:Option Operand} {val:Value} {u:TypeDesc} (ho:o.op = .slice t x lo hi none) (hu:P.underlying t = some u) (hn:∀ n e,u ≠ .array n e)
  (hr:(Instr.slice t (ρ x) (lo.map ρ) (hi.map ρ) none).run P w = .ok val w):(execOp ρ o).run P w = .ok (.value val) w:=by
 have:(Instr.sliceAt t (ρ x) (lo.map ρ) (hi.map ρ) none).run P w = .ok val w:=by
  unfold Instr.sliceAt
  simp only [Sem.run_bind,zC hu,Result.andThen_ok]
  cases u <;> first | exact hr | exact absurd rfl (hn _ _)
 simp only [execOp,ho,Option.map_none,Sem.run_bind,this,Result.andThen_ok,Sem.run_pure]
theorem A9x {α:Type} {s:List α} {l h:Nat} (h1:h ≤ s.length) (h2:l ≤ h):(List.drop l (List.take h s)).length = h - l:=by simp;omega
theorem BC8 {α:Type} {l h:Nat}:List.drop l (List.take h ([]:List α)) = []:=by simp
theorem BB3 {α:Type} {s:List α} {l h i:Nat} {y:α} (hy:nth (List.drop l (List.take h s)) i = some y):nth s (l + i) = some y:=by
 unfold nth at hy ⊢
 rw [List.getElem?_drop,List.getElem?_take] at hy
 split at hy
 ·exact hy
 ·cases hy
theorem Ay4 {s:List UInt8} {l h:Nat}:(⟨⟨s⟩⟩:ByteArray).extract l h = ⟨⟨List.drop l (List.take h s)⟩⟩:=by
 have:=ByteArray.extract_mk s l h
 rw [List.drop_take];exact this
theorem A2y {t:TypeId} {x:Operand} {lo hi:Option Operand} (hc:Ctx E.P H S β a w o g) (hs:Sub gv g) (hm:o.op = .slice t x lo hi none)
  (hk:A0Z gv o (E.ty t) x lo hi some = some us):yM E.P H S β a w o (g.ups us):=by
 unfold A0Z at hk
 split at hk
 ·rename_i s f ht hd
  obtain ⟨h,hk,hh⟩:=AL1 hc hs hk
  obtain ⟨l,hk,hl⟩:=AL1 hc hs hk
  simp only [Bool.cond_eq_ite] at hk
  split at hk
  ·rename_i h1
   split at hk
   ·rename_i h2
    simp only [Nat.ble_eq] at h1 h2
    obtain ⟨c,hcv,hr⟩:=rJ hc.rel (tQ hs hd)
    simp only [Rd] at hr;subst hr
    have ex:a.eval x = .string ⟨⟨s⟩⟩:=zJ hcv
    have hu:=AX5 ht
    refine DV.str.look hc.rel hc.dead hc.opIn hk (Ax4 hm hu (by simp) ?_)
    rw [ex]
    have hb:=AH3 (P:=E.P) (w:=w) (isSl:=false) (len:=(⟨⟨s⟩⟩:ByteArray).size) (cap:=(⟨⟨s⟩⟩:ByteArray).size) hh hl h1 h2
    unfold Instr.slice
    simp only [Sem.run_bind,zC hu,Result.andThen_ok,Option.isSome_none,Bool.false_eq_true,if_false,hb,Sem.run_pure]
    congr 2
    exact Ay4
   ·cases hk
  ·cases hk
 ·rename_i τ τ' s f ht hd
  split at hk
  ·rename_i e;subst e
   split at hk
   ·rename_i us' hp
    obtain ⟨h,hk,hh⟩:=AL1 hc hs hk
    obtain ⟨l,hk,hl⟩:=AL1 hc hs hk
    simp only [Bool.cond_eq_ite] at hk
    split at hk
    ·rename_i h1
     split at hk
     ·rename_i h2
      simp only [Nat.ble_eq] at h1 h2
      obtain ⟨dd,ho,rfl⟩:=yN hk
      obtain ⟨hp',_,halive⟩:=cO hs hp
      obtain ⟨S1,β1,c,hrel,hst,hcv,hr⟩:=AA6 hc.rel hp' (tQ hs hd)
      simp only [Rd] at hr
      obtain ⟨ad,cap,rfl,hlc,hr⟩:=hr
      have ex:a.eval x = .slice ad (List.length s) cap:=zJ hcv
      obtain ⟨e,he,h7⟩:=AY2 ht
      have hb:=AH3 (P:=E.P) (w:=w) (isSl:=true) (len:=List.length s) (cap:=cap) hh hl (by omega) h2
      have hrun:(execOp a.eval o).run E.P w = .ok (.value (.slice (if cap = l then ad else ad.map (·.add (l * τ.size))) (h - l) (cap - l))) w:=by
       refine Ax4 hm he (by simp) ?_
       rw [ex]
       unfold Instr.slice
       simp only [Sem.run_bind,zC he,Result.andThen_ok,hb,tT h7,Sem.run_pure]
      refine A0C (g:=g) (g1:=g.ups us') (V1:=oR a) ho (xS hc.opIn ho) hrel hst (fun _ _=>rfl) (hc.dead.ups fun u hu=>hc.dead.lt (halive u hu)) (fun _ _=>rfl) hrun ?_
      have hlen:List.length (List.drop l (List.take h s)) = h - l:=A9x h1 h2
      refine Al9 (c:=[.slice (if cap = l then ad else ad.map (·.add (l * τ.size))) (h - l) (cap - l)]) ?_ rfl
      simp only [Rd]
      refine ⟨_,_,by rw [hlen],by rw [hlen];omega,?_⟩
      rcases hr with hr | ⟨b,oo,cs,rfl,hS,hB,hz,hr⟩
      ·left;rw [hr];exact BC8
      ·by_cases hcl:cap = l
       ·left
        have:h = l:=by omega
        apply List.length_eq_zero_iff.1;omega
       ·right
        refine ⟨b,oo + l * τ.size,cs,by rw [if_neg hcl];simp [jD],hS,hB,?_,fun i y hy=>?_⟩
        ·rw [hlen]
         have:(h - l) * τ.size + l * τ.size ≤ List.length s * τ.size:=by rw [← Nat.add_mul];exact Nat.mul_le_mul_right _ (by omega)
         omega
        ·have hy':nth s (l + i) = some y:=BB3 hy
         have:=hr (l + i) y hy'
         rw [Nat.add_mul,← Nat.add_assoc] at this
         exact this
     ·cases hk
    ·cases hk
   ·cases hk
  ·cases hk
 ·cases hk
theorem A8Y:∀ {i:Nat} {t:Ty} {f:Fl} {x:t.D} {c:List Value} {k:Key} {e:Dat},zP S β H w k t f x c → xA (yC i) t f x = some e →
  ∃ ci,(BS5 t c)[i]? = some (yA e.t ci) ∧ zP S β H w (k ++ xP (yC i)) e.t e.f e.x ci
 | 0,.pair s u,f,x,c,k,e,hv,hg=>by
  simp only [yC,xA,Option.some.injEq] at hg;subst hg
  exact ⟨_,rfl,by simpa [yC,xP] using (vI hv).1⟩
 | i + 1,.pair s u,f,x,c,k,e,hv,hg=>by
  simp only [yC,xA] at hg
  obtain ⟨ci,h1,h2⟩:=A8Y (vI hv).2 hg
  exact ⟨ci,by simpa [BS5] using h1,by simpa [yC,xP] using h2⟩
theorem Af1:∀ {i:Nat},AE1 (yC i) = false
 | 0=>rfl
 | i + 1=>by simp only [yC,AE1,PS.isElm,Bool.false_or];exact Af1
theorem Aw1 {x:Operand} {i:Nat} (hc:Ctx P H S β a w o g) (hs:Sub gv g) (hm:o.op = .extract x i)
  (hk:AK6 gv o x i some = some us):yM P H S β a w o (g.ups us):=by
 unfold AK6 at hk
 split at hk
 ·rename_i s
  split at hk
  ·rename_i d hd
   have hsub:=hs.get hd (by simp)
   have hd':(g s).sv = .tup d:=by rw [hsub];exact hd
   have hss:=hc.rel.slots s
   rw [hd'] at hss
   obtain ⟨c,hv,hV⟩:=hss
   split at hk
   ·rename_i e hg
    obtain ⟨ci,h1,h2⟩:=A8Y hv hg
    have ex:a.eval (.tmp s) = BQ0 d.t c:=zJ (x:=.tmp s) hV
    have hr:(execOp a.eval o).run P w = .ok (.value (yA e.t ci)) w:=by
     have h1':(BS5 d.t c).toArray[i]? = some (yA e.t ci):=by simpa using h1
     simp only [execOp,hm,ex,BQ0,Instr.extract,h1',Sem.run_bind,Sem.run_pure,Result.andThen_ok]
    split at hk
    ·rename_i hf
     have hf:=uD hf
     rw [hf,yQ] at h2
     exact DV.look ⟨hf,ci,h2,rfl⟩ hc.rel hc.dead hc.opIn hk hr
    ·split at hk
     ·rename_i hw
      obtain ⟨dd,ho,rfl⟩:=yN hk
      have hN:=hc.dead a.tmps.size (Nat.le_refl _)
      have hsN:=hc.dead.lt (show (g s).sv ≠ .dead by rw [hd'];simp)
      have hstep:Rel H a.tmps.size (g.up (.put s (.tup ⟨d.t,d.x,eQ (yC i) d.f .gone⟩))) (oR a) w S (rekey β (s :: xP (yC i)) [a.tmps.size]):=by
       refine hc.rel.put (hc.rel.sane.rekey _ _) (fun b hb=>⟨hb,rfl⟩) (fun j k b hj ha hb=>⟨?_,rfl⟩) (fun _ _=>rfl) ?_
       ·have hjn:j ≠ a.tmps.size:=fun e'=>ha (e' ▸ hN)
        rw [wZ (yF hjn) (yF hj)];exact hb
       ·refine ⟨c,nY (fun b hb=>⟨hb,rfl⟩) Af1 hg (bQ hw) (fun k b hk hb=>⟨?_,rfl⟩) hv,hV⟩
        simp only [List.cons_append,List.nil_append] at hb ⊢
        rw [wZ (yF (by omega)) (Ab0 hk)];exact hb
      have hhand:=hstep.hand (n:=a.tmps.size) (d:=e) (c:=ci) (oZ (by simpa using h2))
      intro K Q hK
      have hdd:=xS hc.opIn ho
      refine tX hr (hK _ _ S _ vC yW ?_ ((Step.rekey (s :: xP (yC i)) [a.tmps.size]).trans (Step.rekey [a.tmps.size] [dd])))
      rw [ho,uF hdd]
      exact hhand.land fS (Nat.le_refl _) (by simp [upd]) (fun i hi=>fN (by omega)) (hc.dead.up hsN) (fun i hi=>by simp only [upd];rw [if_neg (by omega)]) hdd
     ·cases hk
   ·cases hk
  ·cases hk
 ·cases hk
end
end Go.Rf

end
section
namespace Go.Rf
set_option linter.unusedSectionVars false
variable [T:Laid]
section
variable {P:Program} {H:Nat → Option (List Value)} {N:Nat} {g g' σ:yB} {V V':Nat → Option Value} {w w':World} {S S':Nat → Prop} {β β':Key → Option Nat} {a:Act} {o:Oper}
variable {E:Env} {gv:yB} {us:List Up}
def fF (z:Array Value) (n:Nat):Array Value:=(Array.range n).map fun i=>z[i % z.size]!
theorem eV {z:Array Value} {n:Nat}:(fF z n).size = n:=by simp [fF]
theorem A3D {z:Array Value} {m i:Nat} (hi:i < m):win (fF z (m * z.size)).toList (i * z.size) z.size = z.toList:=by
 rcases Nat.eq_zero_or_pos z.size with e | e
 ·have:z = #[]:=Array.size_eq_zero_iff.1 e
  subst this;simp [win]
 ·have hle:(i + 1) * z.size ≤ m * z.size:=Nat.mul_le_mul_right _ hi
  rw [Nat.add_mul,Nat.one_mul] at hle
  apply List.ext_getElem?
  intro j
  rw [tR]
  by_cases hj:j < z.size
  ·rw [if_pos hj]
   have h1:i * z.size + j < (fF z (m * z.size)).size:=by rw [eV];omega
   rw [Array.getElem?_toList,Array.getElem?_eq_getElem h1]
   simp only [fF,Array.getElem_map,Array.getElem_range]
   have:(i * z.size + j) % z.size = j:=by rw [Nat.mul_comm,Nat.mul_add_mod,Nat.mod_eq_of_lt hj]
   rw [this,Array.getElem?_toList,Array.getElem?_eq_getElem hj,getElem!_pos z j hj]
  ·rw [if_neg hj];simp;omega
structure SlOK (E:Env) (t e:TypeId) (τ:Ty) (z:Value):Prop where
 und:E.P.underlying t = some (.slice e)
 elem:tyN E.P 7 e = some τ
 zero:∀ w,(zeroValue e).run E.P w = .ok z w
 cells:nL τ z.cells.toList = true
 bytes:∃ i,E.P.info? e = some i ∧ i.bytes ≤ 128
theorem A6o {t:TypeId} {τ':Ty} (h:E.sl t = some τ'):∃ τ e z,τ' = .sl τ ∧ SlOK E t e τ z:=by
 unfold Env.sl at h
 split at h
 ·rename_i τ e ht hu
  split at h
  ·rename_i hz
   simp only [Option.some.injEq] at h
   simp only [Bool.and_eq_true] at hz
   obtain ⟨hz,hb⟩:=hz
   obtain ⟨e',he',h7⟩:=AY2 ht
   rw [hu] at he'
   simp only [Option.some.injEq,TypeDesc.slice.injEq] at he'
   subst he'
   unfold Env.zok at hz
   split at hz
   ·rename_i i hi
    split at hz
    ·rename_i v hv
     refine ⟨τ,e,v,h.symm,hu,h7,fun w=>by unfold zeroValue;simp [uN hi,hv],hz,i,hi,?_⟩
     unfold Env.small at hb
     rw [hi] at hb
     simpa [Nat.ble_eq] using hb
    ·cases hz
   ·cases hz
  ·cases h
 ·cases h
theorem SlOK.size {t e:TypeId} {τ:Ty} {z:Value} (h:SlOK E t e τ z):z.cells.size = τ.size:=by
 have:=zU (pA (S:=fun _=>False) (β:=fun _=>none) (H:=fun _=>none) (w:=default) false (k:=[]) h.cells)
 simpa using this
theorem AN0 {n:Int} (h0:0 ≤ n) (h1:n ≤ 1099511627776):IntKind.i64.wrap n = n:=by
 simp only [IntKind.wrap,IntKind.bits,IntKind.signed]
 have:n % (2 ^ 64:Int) = n:=Int.emod_eq_of_lt h0 (by omega)
 simp only [this]
 simp
 intro h
 omega
theorem A3B {τ:Ty} {z:Value} {k:Key} {mv:Bool} {m:Nat} (hz:nL τ z.cells.toList = true) (hs:z.cells.size = τ.size) {i:Nat} (hi:i < m):
  zP S β H w k τ (Fl.nw mv τ) τ.dflt (win (fF z.cells (m * τ.size)).toList (i * τ.size) τ.size):=by
 rw [← hs,A3D hi];exact pA mv hz
theorem A1t {t e:TypeId} {τ:Ty} {z:Value} {n m:Int} (h:SlOK E t e τ z) (h0:zA n = true) (h1:leI n m = true) (h2:yT m.toNat = true):
  (Instr.makeSlice t (.int .i64 n) (.int .i64 m)).run E.P w = .ok (.slice (some ⟨w.heap.size,0,none⟩) n.toNat m.toNat) { w with heap:=w.heap.push (.cells (fF z.cells (m.toNat * τ.size)) e) }:=by
 simp only [zA,leI,decide_eq_true_eq] at h0 h1
 have h2:=AY8 h2
 obtain ⟨i,hi,hb⟩:=h.bytes
 have wn:IntKind.i64.wrap n = n:=AN0 h0 (by omega)
 have wm:IntKind.i64.wrap m = m:=AN0 (by omega) (by omega)
 have hsz:(sizeOf e).run E.P w = .ok τ.size w:=tT h.elem
 have hmul:(i.bytes:Int) * m ≤ 2 ^ 48:=by
  have:(i.bytes:Int) * m ≤ 128 * 1099511627776:=Int.mul_le_mul (by omega) (by omega) (by omega) (by omega)
  omega
 unfold Instr.makeSlice
 simp only [Sem.run_bind,zC h.und,Result.andThen_ok,asInt,asIntOf,Sem.run_pure,uN hi,wn,wm]
 have hc:¬ ((((decide (m < 0) || decide ((i.bytes:Int) * m > 2 ^ 48)) || decide (n < 0)) || decide (n > m)) = true):=by
  simp only [Bool.or_eq_true,decide_eq_true_eq]
  omega
 rw [if_neg hc]
 by_cases hn:m.toNat * τ.size = 0
 ·have e0:Array.range 0 = #[]:=rfl
  simp [run_askRoom,hsz,hn,newRow,fF,e0]
 ·simp [run_askRoom,hsz,hn,newRow,fF,h.zero]
theorem Ai9 {mv:Bool} {t:TypeId} {l c:Operand} (hc:Ctx E.P H S β a w o g) (hs:Sub gv g) (hm:o.op = .makeSlice t l c)
  (hk:eK E gv mv o t l c some = some us):yM E.P H S β a w o (g.ups us):=by
 unfold eK at hk
 split at hk
 ·rename_i τ n m ht hl hcap
  simp only [Bool.cond_eq_ite] at hk
  split at hk
  ·rename_i h0
   split at hk
   ·rename_i h1
    split at hk
    ·rename_i h2
     obtain ⟨d,ho,rfl⟩:=yN hk
     obtain ⟨τ2,e,z,heq,hok⟩:=A6o ht
     simp only [Ty.sl.injEq] at heq
     subst heq
     have el:=zJ (dV hc.rel (hs.sv hl (by simp)) gY)
     have ec:=zJ (dV hc.rel (hs.sv hcap (by simp)) gY)
     have hrun:=A1t (w:=w) hok h0 h1 h2
     have h01:n.toNat ≤ m.toNat:=by simp only [leI,decide_eq_true_eq] at h1;omega
     refine A9Y (w':={ w with heap:=w.heap.push (.cells (fF z.cells (Int.toNat m * τ.size)) e) }) (val:=.slice (some ⟨w.heap.size,0,none⟩) (Int.toNat n) (Int.toNat m)) hc ho ?_ ⟨rfl,rfl,rfl,rfl⟩ ?_
     ·simp only [execOp,hm,el,ec,Sem.run_bind]
      exact congrArg (fun r:Result Value=>Result.andThen r fun v w'=>Result.ok (Next.value v) w') hrun
     ·refine ⟨[.slice (some ⟨w.heap.size,0,none⟩) (Int.toNat n) (Int.toNat m)],?_,by simp [upd,yA,Ty.agg]⟩
      simp only [zP,Fl.base]
      refine ⟨by simp [nQ,Fl.pins],some ⟨w.heap.size,0,none⟩,Int.toNat m,by rw [List.length_replicate],by rw [List.length_replicate];exact h01,.inr ⟨w.heap.size,0,_,rfl,by simp [Ad5],AF7.new ⟨rfl,rfl,rfl,rfl⟩ (.inl rfl),?_,fun i y hy=>?_⟩⟩
      ·rw [eV];omega
      ·have hy':(List.replicate (Int.toNat n) τ.dflt)[i]? = some y:=hy
       rw [List.getElem?_replicate] at hy'
       split at hy'
       ·rename_i hi
        simp only [Option.some.injEq] at hy';subst hy'
        simp only [Nat.zero_add]
        exact A3B hok.cells hok.size (by omega)
       ·cases hy'
    ·cases hk
   ·cases hk
  ·cases hk
 ·cases hk
theorem A8v {α γ:Type} {f:α → γ} {l:List α} {i:Nat} {y:γ} (h:nth (l.map f) i = some y):∃ b,l[i]? = some b ∧ y = f b:=by
 unfold nth at h
 rw [List.getElem?_map,Option.map_eq_some_iff] at h
 obtain ⟨b,h1,h2⟩:=h
 exact ⟨b,h1,h2.symm⟩
theorem A1M {xd:List UInt8} {e:TypeId} {d cap:Nat} (hcap0:cap = grownCap w xd.length 0 e):
  zP S (Ad5 β [d] w.heap.size) H (w.drew.alloc (.cells (bytesRow ⟨⟨xd⟩⟩ cap) e ((bytesRow ⟨⟨xd⟩⟩ cap).size,(bytesRow ⟨⟨xd⟩⟩ cap).size + 1))) [d] (.sl (.int .u8)) (.own .sh) (List.map (fun b:UInt8=>(b.toNat:Int)) xd)
   [.slice (some ⟨w.heap.size,0,none⟩) (⟨⟨xd⟩⟩:ByteArray).size cap]:=by
 have hcap:xd.length ≤ cap:=by rw [hcap0];exact grownCap_ge w _ 0 e
 have hlen:(List.map (fun b:UInt8=>(b.toNat:Int)) xd).length = (⟨⟨xd⟩⟩:ByteArray).size:=by rw [List.length_map];rfl
 have hsz:(bytesRow ⟨⟨xd⟩⟩ cap).size = cap:=by
  simp only [bytesRow,Array.size_append,Array.size_map,Array.size_replicate]
  have h3:(⟨⟨xd⟩⟩:ByteArray).data.size = xd.length:=rfl
  have h2:(⟨⟨xd⟩⟩:ByteArray).size = xd.length:=rfl
  rw [h3,h2]
  omega
 simp only [zP,Fl.base]
 refine ⟨by simp [nQ,Fl.pins],some ⟨w.heap.size,0,none⟩,cap,congrArg (fun n=>[Value.slice (some ⟨w.heap.size,0,none⟩) n cap]) hlen.symm,Nat.le_trans (Nat.le_of_eq hlen) hcap,.inr ⟨w.heap.size,0,_,rfl,by simp [Ad5],AF7.new ⟨rfl,rfl,rfl,rfl⟩ (.inr ⟨rfl,Nat.le_refl _⟩),?_,fun i y hy=>?_⟩⟩
 ·rw [hsz];simp [Ty.size]
 ·obtain ⟨b,hb1,hb2⟩:=A8v hy
  subst hb2
  have hi:i < xd.length:=(List.getElem?_eq_some_iff.1 hb1).1
  have hbr:=bytesRow_at ⟨⟨xd⟩⟩ cap i hi
  refine ⟨by simp [nQ,Fl.pins],?_⟩
  simp only [Rd,Ty.size,Nat.mul_one,Nat.zero_add]
  apply List.ext_getElem?
  intro j
  rw [tR]
  cases j with
  | zero=>
   rw [if_pos (by decide),Nat.add_zero,Array.getElem?_toList,hbr]
   have:b = xd[i]:=(List.getElem?_eq_some_iff.1 hb1).2.symm
   subst this
   rfl
  | succ j=>rw [if_neg (by omega)];simp
theorem Av4 {s t:TypeId} {x:Operand} (hc:Ctx E.P H S β a w o g) (hs:Sub gv g) (ho:o.op = .convert s t x) (h1:E.ty s = some .str) (h2:E.ty t = some (.sl (.int .u8)))
  (hk:Av7 (E.ty s) (E.ty t) (yV gv (sv gv x)) (fun d=>oV o [] (.dat d) some) = some us):yM E.P H S β a w o (g.ups us):=by
 cases hd:yV gv (sv gv x) with
 | none=>rw [hd,h1,h2] at hk;simp [Av7] at hk
 | some d=>
  obtain ⟨c,hcv,hr⟩:=rJ hc.rel (tQ hs hd)
  have ex:=zJ hcv
  rw [hd,h1,h2] at hk
  obtain ⟨td,xd,fd⟩:=d
  cases td <;> simp only [Av7,reduceCtorEq] at hk
  obtain ⟨dd,hdst,rfl⟩:=yN hk
  simp only [Rd] at hr;subst hr
  have hx:a.eval x = .string ⟨⟨xd⟩⟩:=ex
  obtain ⟨e,hse,he⟩:=AY2 h2
  have hrun:=run_bytes_of_string (P:=E.P) w s t e ⟨⟨xd⟩⟩ (AX5 h1) hse (A8f he)
  refine A9Y (ob:=.cells (bytesRow ⟨⟨xd⟩⟩ (grownCap w (⟨⟨xd⟩⟩:ByteArray).size 0 e)) e ((bytesRow ⟨⟨xd⟩⟩ (grownCap w (⟨⟨xd⟩⟩:ByteArray).size 0 e)).size,(bytesRow ⟨⟨xd⟩⟩ (grownCap w (⟨⟨xd⟩⟩:ByteArray).size 0 e)).size + 1))
   (w':=w.drew.alloc (.cells (bytesRow ⟨⟨xd⟩⟩ (grownCap w (⟨⟨xd⟩⟩:ByteArray).size 0 e)) e ((bytesRow ⟨⟨xd⟩⟩ (grownCap w (⟨⟨xd⟩⟩:ByteArray).size 0 e)).size,(bytesRow ⟨⟨xd⟩⟩ (grownCap w (⟨⟨xd⟩⟩:ByteArray).size 0 e)).size + 1)))
   (val:=.slice (some ⟨w.heap.size,0,none⟩) (⟨⟨xd⟩⟩:ByteArray).size (grownCap w (⟨⟨xd⟩⟩:ByteArray).size 0 e)) hc hdst ?_ ⟨rfl,rfl,rfl,rfl⟩ ?_
  ·simp only [execOp,ho,hx,Sem.run_bind]
   exact congrArg (fun r:Result Value=>Result.andThen r fun v w'=>Result.ok (Next.value v) w') hrun
  ·exact ⟨_,A1M rfl,by simp [upd,yA,Ty.agg]⟩
end
end Go.Rf

end
section
namespace Go.Rf
set_option linter.unusedSectionVars false
variable [T:Laid]
section
variable {P:Program} {H:Nat → Option (List Value)} {N:Nat} {g g' σ:yB} {V V':Nat → Option Value} {w w':World} {S S':Nat → Prop} {β β':Key → Option Nat} {a:Act} {o:Oper}
variable {E:Env} {gv:yB} {us:List Up}
theorem Ap8 {off:Nat}:∀ {vs:List Value} {k:Nat} {cells:Array Value},off + k + vs.length ≤ cells.size →
  ((vs.zipIdx k).foldl (fun (cs:Array Value) (x:Value × Nat)=>cs.setIfInBounds (off + x.2) x.1) cells).toList = gT cells.toList (off + k) vs
 | [],k,cells,_=>by simp [gT]
 | v :: vs,k,cells,h=>by
  simp only [List.length_cons] at h
  simp only [List.zipIdx_cons,List.foldl_cons]
  rw [Ap8 (by simp;omega)]
  apply List.ext_getElem?
  intro j
  rw [lH (by simp;omega),lH (by simp;omega),Array.toList_setIfInBounds,List.getElem?_set]
  simp only [List.length_cons]
  by_cases h1:j < off + k
  ·rw [if_pos (by omega),if_neg (by omega),if_pos h1]
  ·rw [if_neg h1]
   by_cases h2:j = off + k
   ·subst h2
    rw [if_pos (by omega),if_pos rfl,if_pos (by simp;omega),if_pos (by omega)]
    simp
   ·have e:j - (off + k) = (j - (off + (k + 1))) + 1:=by omega
    rw [if_neg (show ¬ j < off + (k + 1) by omega),e,List.getElem?_cons_succ]
    by_cases h3:j < off + (k + 1) + vs.length
    ·rw [if_pos h3,if_pos (show j < off + k + (vs.length + 1) by omega)]
    ·rw [if_neg h3,if_neg (show ¬ off + k = j by omega),if_neg (show ¬ j < off + k + (vs.length + 1) by omega)]
def Bi6 (place:Nat → Option (Nat × Nat)) (i j:Nat):Prop:=∀ o s o' s',place i = some (o,s) → place j = some (o',s') → o + s ≤ o' ∨ o' + s' ≤ o
theorem A4J {place:Nat → Option (Nat × Nat)}:∀ {ps:List (Nat × Value)} {cells:Array Value},(∀ p ∈ ps,∃ off,place p.1 = some (off,p.2.cells.size) ∧ off + p.2.cells.size ≤ cells.size) → ps.Pairwise (fun p q=>Bi6 place p.1 q.1) →
  ∃ r,Instr.fill place cells ps = some r ∧ r.size = cells.size ∧ (∀ p ∈ ps,∀ off s,place p.1 = some (off,s) → win r.toList off s = p.2.cells.toList) ∧
   (∀ o m,(∀ p ∈ ps,∀ off s,place p.1 = some (off,s) → o + m ≤ off ∨ off + s ≤ o) → win r.toList o m = win cells.toList o m)
 | [],cells,_,_=>⟨cells,rfl,rfl,by simp,fun _ _ _=>rfl⟩
 | (i,v) :: ps,cells,h,hp=>by
  obtain ⟨off,h1,h2⟩:=h (i,v) (by simp)
  simp only at h1 h2
  rw [List.pairwise_cons] at hp
  let c1:=v.cells.zipIdx.foldl (fun (cs:Array Value) (x:Value × Nat)=>cs.setIfInBounds (off + x.2) x.1) cells
  have hc1:c1.toList = gT cells.toList off v.cells.toList:=by
   have:=Ap8 (off:=off) (vs:=v.cells.toList) (k:=0) (cells:=cells) (by simpa using h2)
   rw [Nat.add_zero] at this
   rw [← this]
   show (v.cells.zipIdx.foldl _ cells).toList = _
   rw [← Array.foldl_toList,Array.toList_zipIdx]
  have hs1:c1.size = cells.size:=by
   have:=congrArg List.length hc1
   rw [iR (by simpa using h2)] at this
   simpa using this
  obtain ⟨r,k1,k2,k3,k4⟩:=A4J (place:=place) (ps:=ps) (cells:=c1) (fun p hpm=>by
   obtain ⟨off',e1,e2⟩:=h p (by simp [hpm])
   exact ⟨off',e1,by rw [hs1];exact e2⟩) hp.2
  refine ⟨r,?_,k2.trans hs1,?_,?_⟩
  ·unfold Instr.fill
   rw [h1]
   simp only
   rw [if_neg (by simp;omega)]
   exact k1
  ·intro p hpm off' s hpl
   rcases List.mem_cons.1 hpm with rfl | hpm
   ·simp only at hpl
    rw [h1] at hpl
    simp only [Option.some.injEq,Prod.mk.injEq] at hpl
    obtain ⟨rfl,rfl⟩:=hpl
    rw [k4 off v.cells.size (fun q hq o' s' hq'=>hp.1 q hq off _ o' s' h1 hq'),hc1]
    have:=iA (c:=cells.toList) (d:=v.cells.toList) (o:=off) (by simpa using h2)
    simpa using this
   ·exact k3 p hpm off' s hpl
  ·intro oo m hall
   rw [k4 oo m (fun p hpm=>hall p (by simp [hpm])),hc1]
   exact uI (by simpa using h2) (by simpa using hall (i,v) (by simp) off _ h1)
theorem BL8 (hs:Sub gv g) {n:Nat} {d:Dat} (hn:(gv n).sv = .dead):Sub gv (upN g n d):=fun i=>by
 by_cases e:i = n
 ·subst e;exact .inl hn
 ·rw [fN e];exact hs i
theorem AG2 {mv:Bool} {ts:Nat → Option Ty}:∀ {l:List (Nat × Operand)} {g gv:yB} {V:Nat → Option Value} {S:Nat → Prop} {β:Key → Option Nat} {n:Nat} {ds:List (Nat × Dat)} {us:List Up},
  Rel H N g V w S β → Sub gv g → yK N gv → (∀ i,n ≤ i → (g i).sv = .dead) → N ≤ n → jI gv mv ts l = some (ds,us) →
  ∃ (S1:Nat → Prop) (β1:Key → Option Nat) (g1:yB) (V1:Nat → Option Value) (cs:List (List Value)),Rel H N g1 V1 w S1 β1 ∧ Step w S β w S1 β1 ∧ Sub (gv.ups us) g1 ∧ yK N (gv.ups us) ∧ (∀ i,i < N → g1 i = (g.ups us) i ∧ V1 i = V i) ∧ (∀ i,N ≤ i → i < n → g1 i = g i ∧ V1 i = V i) ∧
   (∀ i,n + ds.length ≤ i → (g1 i).sv = .dead) ∧ cs.length = ds.length ∧ (∀ u ∈ us,u.slot < N) ∧
   ds.map (·.1) = l.map (·.1) ∧
   (∀ j (p:Nat × Dat) (c:List Value),ds[j]? = some p → cs[j]? = some c → (g1 (n + j)).sv = .dat p.2 ∧ V1 (n + j) = some (yA p.2.t c) ∧ c.length = p.2.t.size ∧ p.2.f.whole = true ∧
    ∃ x,l[j]? = some x ∧ ((∀ q ∈ l,∀ s,q.2 = .tmp s → s < N) → evl V x.2 = some (yA p.2.t c)))
 | [],g,gv,V,S,β,n,ds,us,h,hs,hD,hdead,hN,ht=>by
  simp only [jI,Option.some.injEq,Prod.mk.injEq] at ht
  obtain ⟨rfl,rfl⟩:=ht
  exact ⟨S,β,g,V,[],h,.refl,hs,hD,fun _ _=>⟨rfl,rfl⟩,fun _ _ _=>⟨rfl,rfl⟩,by simpa using hdead,rfl,by simp,rfl,by simp⟩
 | (i,x) :: l,g,gv,V,S,β,n,ds,us,h,hs,hD,hdead,hN,ht=>by
  simp only [jI] at ht
  split at ht
  ·rename_i d us1 ht1
   simp only [Option.map_eq_some_iff,Prod.mk.injEq] at ht
   obtain ⟨⟨ds2,us2⟩,ht2,rfl,rfl⟩:=ht
   simp only at *
   obtain ⟨ht1',hsub1⟩:=bZ hs ht1
   have hnd:=hdead n (Nat.le_refl _)
   have halive:=eN ht1
   have hslot:∀ u ∈ us1,u.slot < N:=fun u hu=>hD.lt (halive u hu)
   have hD1:yK N (gv.ups us1):=hD.ups hslot
   obtain ⟨S1,β1,c,k1,k2,k3,k4⟩:=eU h ht1' hnd hN
   have hdead':∀ i,n + 1 ≤ i → ((upN (g.ups us1) n d) i).sv = .dead:=fun i hi=>by
    rw [fN (by omega)]
    have:∀ (us:List Up) (g:yB),(∀ u ∈ us,u.slot < N) → (g i).sv = .dead → ((g.ups us) i).sv = .dead:=by
     intro us
     induction us with
     | nil=>intro g _ h;exact h
     | cons u us ih=>intro g hu h;exact ih (g.up u) (fun v hv=>hu v (by simp [hv])) (by rw [qL (by have:=hu u (by simp);omega)];exact h)
    exact this us1 g hslot (hdead i (by omega))
   obtain ⟨S2,β2,g2,V2,cs,q1,q2,q3,q4,q5,q6,q7,q8,q9,q10,q11⟩:=AG2 (l:=l) (g:=upN (g.ups us1) n d) (gv:=gv.ups us1) (n:=n + 1) k1 (BL8 hsub1 (hD1 n hN)) hD1 hdead' (by omega) ht2
   have upsN:∀ (us:List Up) (g:yB) (j:Nat),j ≠ n → ((upN g n d).ups us) j = (g.ups us) j:=by
    intro us
    induction us with
    | nil=>intro g j hj;exact fN hj
    | cons u us ih=>
     intro g j hj
     show (((upN g n d).up u).ups us) j = ((g.up u).ups us) j
     have:∀ (g1 g2:yB),(∀ k,k ≠ n → g1 k = g2 k) → ∀ k,k ≠ n → (g1.ups us) k = (g2.ups us) k:=by
      clear ih
      induction us with
      | nil=>intro g1 g2 h;exact h
      | cons v vs ih2=>
       intro g1 g2 h
       refine ih2 _ _ fun k hk=>?_
       by_cases e:k = v.slot
       ·subst e;rw [mO,mO,h _ hk]
       ·rw [qL e,qL e,h _ hk]
     refine this _ _ (fun k hk=>?_) j hj
     by_cases e:k = u.slot
     ·subst e;rw [mO,mO,fN hk]
     ·rw [qL e,qL e,fN hk]
   refine ⟨S2,β2,g2,V2,c :: cs,q1,k2.trans q2,by rw [xB];exact q3,by rw [xB];exact q4,fun j hj=>?_,fun j h1 h2=>?_,fun j hj=>q7 j (by simp at hj ⊢;omega),by simp [q8],?_,by simp [q10],?_⟩
   ·obtain ⟨e1,e2⟩:=q5 j hj
    rw [e1,e2,xB,upsN us2 _ j (by omega)]
    exact ⟨rfl,by simp only [upd];rw [if_neg (by omega)]⟩
   ·obtain ⟨e1,e2⟩:=q6 j h1 (by omega)
    rw [e1,e2,fN (by omega)]
    have:∀ (us:List Up) (g:yB),(∀ u ∈ us,u.slot < N) → (g.ups us) j = g j:=by
     intro us
     induction us with
     | nil=>intro g _;rfl
     | cons u us ih=>intro g hu;rw [show g.ups (u :: us) = (g.up u).ups us from rfl,ih (g.up u) (fun v hv=>hu v (by simp [hv])),qL (by have:=hu u (by simp);omega)]
    exact ⟨this us1 g hslot,by simp only [upd];rw [if_neg (by omega)]⟩
   ·intro u hu
    rcases List.mem_append.1 hu with hu | hu
    ·exact hslot u hu
    ·exact q9 u hu
   ·intro j p cc hp hc
    cases j with
    | zero=>
     simp only [List.getElem?_cons_zero,Option.some.injEq] at hp hc
     subst hp;subst hc
     obtain ⟨e1,e2⟩:=q6 n hN (by omega)
     refine ⟨by rw [Nat.add_zero,e1,fS],by rw [Nat.add_zero,e2];simp [upd],k4,Ab2 ht1',(i,x),rfl,fun _=>k3⟩
    | succ j=>
     simp only [List.getElem?_cons_succ] at hp hc
     obtain ⟨e1,e2,e3,e4,y,e5,e6⟩:=q11 j p cc hp hc
     rw [show n + (j + 1) = n + 1 + j by omega]
     refine ⟨e1,e2,e3,e4,y,by simpa using e5,fun hlt=>?_⟩
     have hy:∀ s,y.2 = .tmp s → s < N:=hlt y (by simp [List.mem_of_getElem? e5])
     have:=e6 (fun q hq=>hlt q (by simp [hq]))
     revert this
     cases hyx:y.2 with
     | tmp s=>
      intro this
      simp only [evl,upd] at this ⊢
      rw [if_neg (fun e=>absurd (hy s hyx) (by rw [e];exact Nat.not_lt.2 hN))] at this;exact this
     | _=>exact fun h=>h
  ·cases ht
end
end Go.Rf

end
section
namespace Go.Rf
set_option linter.unusedSectionVars false
variable [T:Laid]
section
variable {P:Program} {H:Nat → Option (List Value)} {N:Nat} {g g' σ:yB} {V V':Nat → Option Value} {w w':World} {S S':Nat → Prop} {β β':Key → Option Nat} {a:Act} {o:Oper}
variable {E:Env} {gv:yB} {us:List Up}
structure Mover where
 n:Nat
 dst:Key
 d:Dat
 c:List Value
theorem Ax7:∀ {ps:List Mover} {β:Key → Option Nat},Sane w S β → (∀ p ∈ ps,zP S β H w [p.n] p.d.t p.d.f p.d.x p.c) →
  ps.Pairwise (fun p q=>p.n ≠ q.n ∧ (∀ s,rX p.dst (q.dst ++ s) = none) ∧ ∀ s,rX q.dst (p.dst ++ s) = none) → (∀ p ∈ ps,∀ q ∈ ps,∀ s,rX [p.n] (q.dst ++ s) = none ∧ rX q.dst (p.n :: s) = none) →
  ∃ β',Sane w S β' ∧ Step w S β w S β' ∧ (∀ k b,(∀ p ∈ ps,rX p.dst k = none ∧ rX [p.n] k = none) → β k = some b → β' k = some b) ∧ ∀ p ∈ ps,zP S β' H w p.dst p.d.t p.d.f p.d.x p.c
 | [],β,hs,_,_,_=>⟨β,hs,.refl,fun _ _ _ h=>h,by simp⟩
 | p :: ps,β,hs,hv,hp,hn=>by
  rw [List.pairwise_cons] at hp
  obtain ⟨β',k1,k2,k3,k4⟩:=Ax7 (ps:=ps) (hs.rekey [p.n] p.dst) (fun q hq=>by
   refine zL (fun b hb=>⟨hb,rfl⟩) (fun s b hb=>⟨?_,rfl⟩) (hv q (by simp [hq]))
   have h1:=hp.1 q hq
   rw [wZ]
   ·exact hb
   ·exact (hn q (by simp [hq]) p (by simp) s).2
   ·simp [rX,h1.1]) hp.2 (fun q hq r hr=>hn q (by simp [hq]) r (by simp [hr]))
  refine ⟨β',k1,(Step.rekey _ _).trans k2,fun k b hk hb=>?_,fun q hq=>?_⟩
  ·refine k3 k b (fun q hq=>hk q (by simp [hq])) ?_
   have:=hk p (by simp)
   rw [wZ this.1 this.2];exact hb
  ·rcases List.mem_cons.1 hq with rfl | hq
   ·refine zL (p:=q.dst) (fun b hb=>⟨hb,rfl⟩) (fun s b hb=>⟨?_,rfl⟩) (oZ (hv q (by simp)))
    refine k3 _ b (fun r hr=>⟨(hp.1 r hr).2.2 s,(hn r (by simp [hr]) q (by simp) s).1⟩) hb
   ·exact k4 q hq
def bK (g:yB) (V:Nat → Option Value) (n:Nat) (ds:List (Nat × Dat)) (cs:List (List Value)):Prop:=
 cs.length = ds.length ∧ ∀ j (p:Nat × Dat) (c:List Value),ds[j]? = some p → cs[j]? = some c → (g (n + j)).sv = .dat p.2 ∧ V (n + j) = some (yA p.2.t c) ∧ c.length = p.2.t.size ∧ p.2.f.whole = true
def A0U (n:Nat) (dst:Nat → Key) (ds:List (Nat × Dat)) (cs:List (List Value)):List Mover:=
 ((ds.zip cs).zipIdx).map fun x=>⟨n + x.2,dst x.1.1.1,x.1.1.2,x.1.2⟩
theorem AM0 {n:Nat} {dst:Nat → Key} {ds:List (Nat × Dat)} {cs:List (List Value)} {m:Mover} (h:m ∈ A0U n dst ds cs):
  ∃ (j:Nat) (p:Nat × Dat) (c:List Value),ds[j]? = some p ∧ cs[j]? = some c ∧ m = ⟨n + j,dst p.1,p.2,c⟩:=by
 unfold A0U at h
 rw [List.mem_map] at h
 obtain ⟨⟨⟨p,c⟩,j⟩,hx,rfl⟩:=h
 rw [List.mem_zipIdx_iff_getElem?] at hx
 simp only [List.getElem?_zip_eq_some] at hx
 exact ⟨j,p,c,hx.1,hx.2,rfl⟩
theorem A7M {n:Nat} {dst:Nat → Key} {ds:List (Nat × Dat)} {cs:List (List Value)} {j:Nat} {p:Nat × Dat} {c:List Value} (h1:ds[j]? = some p) (h2:cs[j]? = some c):
  (⟨n + j,dst p.1,p.2,c⟩:Mover) ∈ A0U n dst ds cs:=by
 unfold A0U
 rw [List.mem_map]
 exact ⟨((p,c),j),by rw [List.mem_zipIdx_iff_getElem?];simp only [List.getElem?_zip_eq_some];exact ⟨h1,h2⟩,rfl⟩
theorem kN:∀ {l:List Nat},lT l = true → l.Nodup
 | [],_=>List.nodup_nil
 | a :: l,h=>by
  simp only [lT,Bool.and_eq_true,Bool.not_eq_true',List.any_eq_false,Nat.beq_eq] at h
  exact List.nodup_cons.2 ⟨fun hm=>h.1 a hm rfl,kN h.2⟩
theorem A2j {n d:Nat} {dst:Nat → Key} {ds:List (Nat × Dat)} {cs:List (List Value)} (h:Rel H N g V w S β) (hh:bK g V n ds cs) (hd:d < N) (hN:N ≤ n) (hnd:lT (ds.map (·.1)) = true)
  (hdst:∀ i,∃ k,dst i = d :: k) (hfree:∀ i j s,i ≠ j → rX (dst i) (dst j ++ s) = none):
  ∃ β2,Sane w S β2 ∧ Step w S β w S β2 ∧ (∀ j s b,j ≠ d → j < N → β (j :: s) = some b → β2 (j :: s) = some b) ∧
   ∀ (j:Nat) (p:Nat × Dat) (c:List Value),ds[j]? = some p → cs[j]? = some c → zP S β2 H w (dst p.1) p.2.t p.2.f p.2.x c:=by
 have hnod:=kN hnd
 obtain ⟨β2,k1,k2,k3,k4⟩:=Ax7 (H:=H) (ps:=A0U n dst ds cs) h.sane (fun m hm=>by
  obtain ⟨j,p,c,h1,h2,rfl⟩:=AM0 hm
  obtain ⟨e1,e2,e3,_⟩:=hh.2 j p c h1 h2
  obtain ⟨cc,hv,hV⟩:=h.dat e1
  have:=tK (Option.some.inj (hV.symm.trans e2)) (zU hv) e3
  subst this;exact hv)
  (by
   unfold A0U
   rw [List.pairwise_map]
   rw [List.pairwise_iff_getElem]
   intro i j hi hj hij
   simp only [List.length_zipIdx,List.length_zip] at hi hj
   simp only [List.getElem_zipIdx,List.getElem_zip,Nat.zero_add]
   have hne:(ds[i]'(by omega)).1 ≠ (ds[j]'(by omega)).1:=by
    intro e
    have:=(List.pairwise_iff_getElem.1 hnod) i j (by simp;omega) (by simp;omega) hij
    simp only [List.getElem_map] at this
    exact this e
   exact ⟨by omega,fun s=>hfree _ _ s hne,fun s=>hfree _ _ s (Ne.symm hne)⟩)
  (fun m hm q hq s=>by
   obtain ⟨j,p,c,h1,h2,rfl⟩:=AM0 hm
   obtain ⟨j',p',c',h1',h2',rfl⟩:=AM0 hq
   obtain ⟨k,hk⟩:=hdst p'.1
   simp only [hk]
   exact ⟨by simp [rX];omega,by simp [rX];intro e;omega⟩)
 refine ⟨β2,k1,k2,fun j s b hj hjN hb=>k3 _ b (fun m hm=>?_) hb,fun j p c h1 h2=>k4 _ (A7M h1 h2)⟩
 obtain ⟨i,p,c,h1,h2,rfl⟩:=AM0 hm
 obtain ⟨k,hk⟩:=hdst p.1
 simp only [hk]
 exact ⟨by simp [rX,Ne.symm hj],by simp [rX];omega⟩
theorem A8t {n:Nat}:∀ {m:Nat} {ds:List (Nat × Dat)} {cs:List (List Value)} {g:yB} {S:Nat → Prop} {β:Key → Option Nat},ds.length = m → Rel H N g V w S β → bK g V n ds cs → N ≤ n →
  ∃ S1 β1 g1,Rel H N g1 V w S1 β1 ∧ Step w S β w S1 β1 ∧ (∀ i,i < n → g1 i = g i) ∧ (∀ i,n + m ≤ i → g1 i = g i) ∧ bK g1 V n (ds.map fun p=>(p.1,⟨p.2.t,p.2.x,.sh⟩)) cs ∧ ∀ j s b,j < n → β (j :: s) = some b → β1 (j :: s) = some b:=by
 intro m
 induction m with
 | zero=>
  intro ds cs g S β hm h hh hN
  have:ds = []:=List.length_eq_zero_iff.1 hm
  subst this
  exact ⟨S,β,g,h,.refl,fun _ _=>rfl,fun _ _=>rfl,by simpa using hh,fun _ _ _ _ h=>h⟩
 | succ m ih=>
  intro ds cs g S β hm h hh hN
  have hds:ds ≠ []:=fun e=>by rw [e] at hm;simp at hm
  obtain ⟨ds0,p,rfl⟩:∃ l p,ds = l ++ [p]:=⟨ds.dropLast,ds.getLast hds,(List.dropLast_concat_getLast hds).symm⟩
  have hcs:cs ≠ []:=fun e=>by have:=hh.1;rw [e] at this;simp at this
  obtain ⟨cs0,c,rfl⟩:∃ l p,cs = l ++ [p]:=⟨cs.dropLast,cs.getLast hcs,(List.dropLast_concat_getLast hcs).symm⟩
  have hl0:ds0.length = m:=by simpa using hm
  have hlc:cs0.length = m:=by have:=hh.1;simp at this;omega
  obtain ⟨S1,β1,g1,k1,k2,k3,k4,k5,k6⟩:=ih (ds:=ds0) (cs:=cs0) hl0 h ⟨by omega,fun j p c h1 h2=>hh.2 j p c (by rw [List.getElem?_append_left (by have:=(List.getElem?_eq_some_iff.1 h1).1;exact this)];exact h1)
   (by rw [List.getElem?_append_left (by have:=(List.getElem?_eq_some_iff.1 h2).1;exact this)];exact h2)⟩ hN
  obtain ⟨e1,e2,e3,e4⟩:=hh.2 m p c (by rw [List.getElem?_append_right (by omega)];simp [hl0]) (by rw [List.getElem?_append_right (by omega)];simp [hlc])
  have hg1:(g1 (n + m)).sv = .dat p.2:=by rw [k4 _ (by omega)];exact e1
  have hp:=k1.publish (p:=[]) hg1 rfl e4
  refine ⟨_,_,_,hp,k2.trans (.pub _ _ _),fun i hi=>?_,fun i hi=>?_,⟨by simp [hl0,hlc],fun j q c' h1 h2=>?_⟩,fun j s b hj hb=>?_⟩
  ·rw [qL (u:=.pub (n + m) _) (by simp only [Up.slot];omega)];exact k3 i hi
  ·rw [qL (u:=.pub (n + m) _) (by simp only [Up.slot];omega)];exact k4 i (by omega)
  ·rw [List.map_append,List.map_singleton] at h1
   by_cases hj:j < m
   ·rw [List.getElem?_append_left (by simp [hl0,hj])] at h1
    rw [List.getElem?_append_left (by omega)] at h2
    rw [qL (u:=.pub (n + m) _) (by simp only [Up.slot];omega)]
    exact k5.2 j q c' h1 h2
   ·have hjm:j = m:=by
     have:=(List.getElem?_eq_some_iff.1 h2).1
     simp at this;omega
    subst hjm
    rw [List.getElem?_append_right (by simp [hl0])] at h1
    rw [List.getElem?_append_right (by omega)] at h2
    simp only [List.length_map,hl0,Nat.sub_self,List.getElem?_cons_zero,Option.some.injEq,hlc] at h1 h2
    subst h1;subst h2
    refine ⟨?_,e2,e3,rfl⟩
    rw [show (g1.up (.pub (n + j) (.dat ⟨p.2.t,p.2.x,eQ [] p.2.f .sh⟩))) (n + j) = _ from mO (u:=.pub (n + j) _)]
    rfl
  ·have:=k6 j s b hj hb
   simp only [A8T];rw [if_neg (by omega)];exact this
end
end Go.Rf

end
section
namespace Go.Rf
set_option linter.unusedSectionVars false
variable [T:Laid]
section
variable {P:Program} {H:Nat → Option (List Value)} {N:Nat} {g g' σ:yB} {V V':Nat → Option Value} {w w':World} {S S':Nat → Prop} {β β':Key → Option Nat} {a:Act} {o:Oper}
variable {E:Env} {gv:yB} {us:List Up}
theorem AC2 {l:List (Nat × Dat)} {i:Nat} {d:Dat} (h:gX l i = some d):∃ (j:Nat) (p:Nat × Dat),l[j]? = some p ∧ p.1 = i ∧ p.2 = d:=by
 unfold gX at h
 rw [Option.map_eq_some_iff] at h
 obtain ⟨p,h1,h2⟩:=h
 obtain ⟨j,hj⟩:=List.getElem?_of_mem (List.mem_of_find?_eq_some h1)
 have:=List.find?_some h1
 exact ⟨j,p,hj,by simpa [Nat.beq_eq] using this,h2⟩
theorem AB9 {l:List (Nat × Dat)} {i:Nat} (h:gX l i = none):∀ p ∈ l,p.1 ≠ i:=by
 unfold gX at h
 rw [Option.map_eq_none_iff,List.find?_eq_none] at h
 intro p hp e
 exact h p hp (by simp [Nat.beq_eq,e])
theorem A3J {t:Ty} {h:Nat → Option Dat}:∀ {n i:Nat} {xs:List t.D},A5Z t h i n = some xs → xs.length = n ∧
  ∀ j,j < n → (h (i + j) = none → xs[j]? = some t.dflt) ∧ ∀ d,h (i + j) = some d → ∃ x,lV d.t t d.x = some x ∧ xs[j]? = some x
 | 0,i,xs,hl=>by
  simp only [A5Z,Option.some.injEq] at hl;subst hl
  exact ⟨rfl,fun j hj=>by omega⟩
 | n + 1,i,xs,hl=>by
  simp only [A5Z] at hl
  split at hl
  ·rename_i l hl'
   obtain ⟨h1,h2⟩:=A3J hl'
   split at hl
   ·rename_i d hd
    simp only [Option.map_eq_some_iff] at hl
    obtain ⟨x,hx,rfl⟩:=hl
    refine ⟨by simp [h1],fun j hj=>?_⟩
    cases j with
    | zero=>exact ⟨fun e=>by (rw [Nat.add_zero,hd] at e;cases e),fun d' hd'=>by (rw [Nat.add_zero,hd] at hd';cases hd';exact ⟨x,hx,rfl⟩)⟩
    | succ j=>
     have:=h2 j (by omega)
     rw [show i + 1 + j = i + (j + 1) by omega] at this
     simpa using this
   ·rename_i hd
    simp only [Option.some.injEq] at hl
    subst hl
    refine ⟨by simp [h1],fun j hj=>?_⟩
    cases j with
    | zero=>exact ⟨fun _=>rfl,fun d' hd'=>by rw [Nat.add_zero,hd] at hd';cases hd'⟩
    | succ j=>
     have:=h2 j (by omega)
     rw [show i + 1 + j = i + (j + 1) by omega] at this
     simpa using this
  ·cases hl
def BX1 (f:Fl) (ds:List (Nat × Dat)):List (Nat × Dat):=ds.map fun p=>(p.1,⟨p.2.t,p.2.x,f⟩)
theorem A62 {mv:Bool} {m n:Nat} {τ:Ty} {ds:List (Nat × Dat)} {cs:List (List Value)} {f:Fl} (h:Rel H N g V w S β) (hh:bK g V m ds cs) (hN:N ≤ m) (hm:A3p mv n τ ds = some f):
  ∃ S1 β1 g1,Rel H N g1 V w S1 β1 ∧ Step w S β w S1 β1 ∧ (∀ i,i < m → g1 i = g i) ∧ bK g1 V m (BX1 f ds) cs ∧ (∀ j s b,j < m → β (j :: s) = some b → β1 (j :: s) = some b) ∧ (f = .nw mv τ ∨ (f = .sh ∧ (Fl.nw mv τ).whole = true) ∨ (n = 1 ∧ ds.length = 1)):=by
 have same:(∀ p ∈ ds,p.2.f = f) → bK g V m (BX1 f ds) cs:=fun hf=>by
  have:BX1 f ds = ds:=by
   unfold BX1
   conv=>rhs;rw [← List.map_id ds]
   refine List.map_congr_left fun p hp=>?_
   obtain ⟨i,t,x,f'⟩:=p
   have:=hf _ hp
   simp only at this
   subst this;rfl
  rw [this];exact hh
 have pubs:(Fl.nw mv τ).whole = true → f = .sh → ∃ S1 β1 g1,Rel H N g1 V w S1 β1 ∧ Step w S β w S1 β1 ∧ (∀ i,i < m → g1 i = g i) ∧ bK g1 V m (BX1 f ds) cs ∧ (∀ j s b,j < m → β (j :: s) = some b → β1 (j :: s) = some b) ∧ (f = .nw mv τ ∨ (f = .sh ∧ (Fl.nw mv τ).whole = true) ∨ (n = 1 ∧ ds.length = 1)):=by
  intro hw hf
  subst hf
  obtain ⟨S1,β1,g1,k1,k2,k3,_,k5,k6⟩:=A8t rfl h hh hN
  exact ⟨S1,β1,g1,k1,k2,k3,k5,k6,.inr (.inl ⟨rfl,hw⟩)⟩
 unfold A3p at hm
 split at hm
 ·rename_i i d
  split at hm
  ·rename_i h1
   simp only [Option.some.injEq] at hm;subst hm
   exact ⟨S,β,g,h,.refl,fun _ _=>rfl,same (by simp),fun _ _ _ _ h=>h,.inr (.inr ⟨by simpa [Nat.beq_eq] using h1,rfl⟩)⟩
  ·split at hm
   ·rename_i h2
    simp only [Option.some.injEq] at hm;subst hm
    exact ⟨S,β,g,h,.refl,fun _ _=>rfl,same (by simp),fun _ _ _ _ h=>h,.inl h2⟩
   ·split at hm
    ·rename_i h3
     simp only [Bool.and_eq_true,A7O] at h3
     simp only [Option.some.injEq] at hm
     exact pubs h3.2 hm.symm
    ·cases hm
 ·split at hm
  ·rename_i h2
   simp only [Option.some.injEq] at hm;subst hm
   exact ⟨S,β,g,h,.refl,fun _ _=>rfl,same (fun p hp=>by simpa using List.all_eq_true.1 h2 p hp),fun _ _ _ _ h=>h,.inl rfl⟩
  ·split at hm
   ·rename_i h3
    simp only [Bool.and_eq_true,A7O] at h3
    simp only [Option.some.injEq] at hm
    exact pubs h3.1 hm.symm
   ·cases hm
def dW (ds:List (Nat × Dat)) (cs:List (List Value)):List (Nat × Value):=(ds.zip cs).map fun x=>(x.1.1,yA x.1.2.t x.2)
theorem AK9 {ds:List (Nat × Dat)} {cs:List (List Value)} {x:Nat × Value} (h:x ∈ dW ds cs):∃ (j:Nat) (p:Nat × Dat) (c:List Value),ds[j]? = some p ∧ cs[j]? = some c ∧ x = (p.1,yA p.2.t c):=by
 unfold dW at h
 rw [List.mem_map] at h
 obtain ⟨⟨p,c⟩,hx,rfl⟩:=h
 obtain ⟨j,hj⟩:=List.getElem?_of_mem hx
 simp only [List.getElem?_zip_eq_some] at hj
 exact ⟨j,p,c,hj.1,hj.2,rfl⟩
theorem Ap6 {n j:Nat} {ds:List (Nat × Dat)} {cs:List (List Value)} {p:Nat × Dat} {c:List Value} (h:Rel H N g V w S β) (hh:bK g V n ds cs) (h1:ds[j]? = some p) (h2:cs[j]? = some c):
  (yA p.2.t c).cells = c.toArray ∧ c.length = p.2.t.size:=by
 obtain ⟨e1,e2,e3,e4⟩:=hh.2 j p c h1 h2
 obtain ⟨cc,hv,hV⟩:=h.dat e1
 have:=tK (Option.some.inj (hV.symm.trans e2)) (zU hv) e3
 subst this
 exact ⟨AB0 e3 (A1J e4 hv),e3⟩
theorem A2p {n k d:Nat} {τ:Ty} {mv:Bool} {Z:Array Value} {ds:List (Nat × Dat)} {cs:List (List Value)} {f:Fl} {xs:List τ.D} (h:Rel H N g V w S β) (hh:bK g V n ds cs) (hN:N ≤ n) (hd:d < N)
  (hnd:lT (ds.map (·.1)) = true) (hlt:ds.all (fun x=>Nat.blt x.1 k) = true) (hl:A5Z τ (gX ds) 0 k = some xs) (hm:A3p mv k τ ds = some f) (hzs:Z.size = k * τ.size) (hz:∀ i,i < k → nL τ (win Z.toList (i * τ.size) τ.size) = true):
  ∃ r S1 β1,Instr.fill (fun i=>some (i * τ.size,τ.size)) Z (dW ds cs) = some r ∧ r.size = k * τ.size ∧ Sane w S1 β1 ∧ Step w S β w S1 β1 ∧ (∀ j s b,j ≠ d → j < N → β (j :: s) = some b → β1 (j :: s) = some b) ∧
   xs.length = k ∧ ∀ i y,nth xs i = some y → zP S1 β1 H w [d,i] τ f y (win r.toList (i * τ.size) τ.size):=by
 obtain ⟨S1,β1,g1,k1,k2,k3,k4,k6,k5⟩:=A62 h hh hN hm
 obtain ⟨β2,q1,q2,q3,q4⟩:=A2j (dst:=fun i=>[d,i]) k1 k4 hd hN (by unfold BX1;rw [List.map_map];exact hnd) (fun i=>⟨[i],rfl⟩) (fun i j s hij=>by simp [rX,hij])
 obtain ⟨hlen,hget⟩:=A3J hl
 have hty:∀ (j:Nat) (p:Nat × Dat),ds[j]? = some p → p.1 < k ∧ p.2.t = τ ∧ gX ds p.1 = some p.2:=by
  intro j p hj
  have hlt':p.1 < k:=by
   have:=List.all_eq_true.1 hlt p (List.mem_of_getElem? hj)
   simpa [Nat.blt_eq] using this
  have hp:∃ e,gX ds p.1 = some e:=by
   cases he:gX ds p.1 with
   | some e=>exact ⟨e,rfl⟩
   | none=>exact absurd rfl (AB9 he p (List.mem_of_getElem? hj))
  obtain ⟨e,he⟩:=hp
  obtain ⟨j',p',h1,h2,h3⟩:=AC2 he
  have hjj:p' = p:=by
   have hnod:=kN hnd
   have hi1:=(List.getElem?_eq_some_iff.1 h1)
   have hi2:=(List.getElem?_eq_some_iff.1 hj)
   by_cases e':j' = j
   ·subst e';rw [h1] at hj;exact Option.some.inj hj
   ·exfalso
    have hpw:=List.pairwise_iff_getElem.1 hnod
    rcases Nat.lt_or_gt_of_ne e' with hlt2 | hlt2
    ·have:=hpw j' j (by simp;exact hi1.1) (by simp;exact hi2.1) hlt2
     simp only [List.getElem_map] at this
     rw [hi1.2,hi2.2] at this;exact this h2
    ·have:=hpw j j' (by simp;exact hi2.1) (by simp;exact hi1.1) hlt2
     simp only [List.getElem_map] at this
     rw [hi1.2,hi2.2] at this;exact this h2.symm
  subst hjj
  obtain ⟨x,hx,_⟩:=(hget p'.1 hlt').2 p'.2 (by rw [Nat.zero_add,he,h3])
  exact ⟨hlt',(vV hx).1,by rw [he,h3]⟩
 have hsz:∀ (j:Nat) (p:Nat × Dat) (c:List Value),ds[j]? = some p → cs[j]? = some c → (yA p.2.t c).cells = c.toArray ∧ c.length = τ.size:=by
  intro j p c h1 h2
  obtain ⟨e1,e2⟩:=Ap6 h hh h1 h2
  rw [(hty j p h1).2.1] at e2
  exact ⟨e1,e2⟩
 have mulle:∀ i,i < k → i * τ.size + τ.size ≤ k * τ.size:=fun i hi=>by
  have:(i + 1) * τ.size ≤ k * τ.size:=Nat.mul_le_mul_right _ hi
  rw [Nat.add_mul,Nat.one_mul] at this;exact this
 have mulap:∀ i j,i ≠ j → i * τ.size + τ.size ≤ j * τ.size ∨ j * τ.size + τ.size ≤ i * τ.size:=fun i j hij=>by
  rcases Nat.lt_or_gt_of_ne hij with hl | hl
  ·left
   have:(i + 1) * τ.size ≤ j * τ.size:=Nat.mul_le_mul_right _ hl
   rw [Nat.add_mul,Nat.one_mul] at this;exact this
  ·right
   have:(j + 1) * τ.size ≤ i * τ.size:=Nat.mul_le_mul_right _ hl
   rw [Nat.add_mul,Nat.one_mul] at this;exact this
 obtain ⟨r,r1,r2,r3,r4⟩:=A4J (place:=fun i=>some (i * τ.size,τ.size)) (ps:=dW ds cs) (cells:=Z) (fun p hp=>by
  obtain ⟨j,q,c,h1,h2,rfl⟩:=AK9 hp
  obtain ⟨e1,e2⟩:=hsz j q c h1 h2
  refine ⟨q.1 * τ.size,?_,?_⟩
  ·simp only [e1];simp [e2]
  ·simp only [e1,hzs];simp only [List.size_toArray,e2];exact mulle _ (hty j q h1).1) (by
  unfold dW
  rw [List.pairwise_map,List.pairwise_iff_getElem]
  intro i j hi hj hij
  simp only [List.length_zip] at hi hj
  simp only [List.getElem_zip]
  have hne:(ds[i]'(by omega)).1 ≠ (ds[j]'(by omega)).1:=by
   intro e
   have:=(List.pairwise_iff_getElem.1 (kN hnd)) i j (by simp;omega) (by simp;omega) hij
   simp only [List.getElem_map] at this
   exact this e
  intro o1 s1 o2 s2 h1 h2
  simp only [Option.some.injEq,Prod.mk.injEq] at h1 h2
  obtain ⟨rfl,rfl⟩:=h1
  obtain ⟨rfl,rfl⟩:=h2
  exact mulap _ _ hne)
 refine ⟨r,S1,β2,r1,by rw [r2,hzs],q1,k2.trans q2,fun j s b hj hjN hb=>?_,hlen,fun i y hy=>?_⟩
 ·exact q3 j s b hj hjN (k6 j s b (by omega) hb)
 ·have hi:i < k:=by unfold nth at hy;have:=(List.getElem?_eq_some_iff.1 hy).1;omega
  cases hp:gX ds i with
  | some e=>
   obtain ⟨j,p,h1,h2,h3⟩:=AC2 hp
   have hjc:∃ c,cs[j]? = some c:=by
    have:=(List.getElem?_eq_some_iff.1 h1).1
    exact ⟨cs[j]'(by rw [hh.1];exact this),List.getElem?_eq_getElem _⟩
   obtain ⟨c,hc⟩:=hjc
   obtain ⟨e1,e2⟩:=hsz j p c h1 hc
   have hwin:=r3 (p.1,yA p.2.t c) (by
    unfold dW
    rw [List.mem_map]
    refine ⟨(p,c),?_,rfl⟩
    exact List.mem_of_getElem? (i:=j) (by simp only [List.getElem?_zip_eq_some];exact ⟨h1,hc⟩)) (p.1 * τ.size) τ.size rfl
   simp only [e1,h2] at hwin
   rw [hwin]
   have hv:=q4 j (p.1,⟨p.2.t,p.2.x,f⟩) c (by unfold BX1;rw [List.getElem?_map,h1];rfl) hc
   simp only [h2] at hv
   obtain ⟨x,hx,hxi⟩:=(hget i hi).2 e (by rw [Nat.zero_add];exact hp)
   have hyx:y = x:=by
    unfold nth at hy
    rw [hxi] at hy;exact (Option.some.inj hy).symm
   subst hyx
   subst h3
   obtain ⟨pi,pt,px,pf⟩:=p
   simp only at hv hx h2
   obtain ⟨het,hex⟩:=vV hx
   subst het
   subst hex
   simpa using hv
  | none=>
   have hnone:=AB9 hp
   have hyd:y = τ.dflt:=by
    have:=(hget i hi).1 (by rw [Nat.zero_add];exact hp)
    unfold nth at hy
    rw [this] at hy;exact (Option.some.inj hy).symm
   subst hyd
   have hwin:=r4 (i * τ.size) τ.size (fun p hpm off s hpl=>by
    obtain ⟨j,q,c,h1,h2,rfl⟩:=AK9 hpm
    simp only [Option.some.injEq,Prod.mk.injEq] at hpl
    obtain ⟨rfl,rfl⟩:=hpl
    exact mulap _ _ (Ne.symm (hnone q (List.mem_of_getElem? h1))))
   rw [hwin]
   have hzv:=pA (S:=S1) (β:=fun _=>none) (H:=H) (w:=w) (k:=[d,i]) mv (hz i hi)
   rcases k5 with e | ⟨e,hw⟩ | ⟨e1,e2⟩
   ·subst e
    exact pA mv (hz i hi)
   ·subst e
    exact yQ.2 (vW hw (fun _ h=>h) (fun _ _ hb=>by cases hb) hzv)
   ·exfalso
    obtain ⟨p,hpd⟩:=List.length_eq_one_iff.1 e2
    have h0:=hty 0 p (by rw [hpd];rfl)
    have:i = 0:=by omega
    exact hnone p (by rw [hpd];simp) (by omega)
end
end Go.Rf

end
section
namespace Go.Rf
set_option linter.unusedSectionVars false
variable [T:Laid]
section
variable {P:Program} {H:Nat → Option (List Value)} {N:Nat} {g g' σ:yB} {V V':Nat → Option Value} {w w':World} {S S':Nat → Prop} {β β':Key → Option Nat} {a:Act} {o:Oper}
variable {E:Env} {gv:yB} {us:List Up}
theorem BJ5 (hs:Sub gv g) (hD:yK N g):yK N gv:=fun i hi=>by
 rcases hs i with h | h
 ·exact h
 ·rw [← h];exact hD i hi
theorem Az0 {s:Nat}:∀ {l:List Operand},.tmp s ∈ l → s ∈ Af2 l
 | [],h=>by simp at h
 | x :: l,h=>by
  rcases List.mem_cons.1 h with h | h
  ·subst h;simp [Af2]
  ·have:=Az0 h
   cases x <;> simp [Af2,this]
theorem BP9 {n s:Nat} (h:opIn n o = true) (hs:.tmp s ∈ o.op.operands.toList):s < n:=by
 unfold opIn at h
 simp only [Bool.and_eq_true] at h
 have:=List.all_eq_true.1 h.2 s (Az0 hs)
 simpa [Nat.blt_eq] using this
theorem AA4 {mv:Bool} {ts:Nat → Option Ty} {ps:Array (Nat × Operand)} {ds:List (Nat × Dat)} (hc:Ctx P H S β a w o g) (hs:Sub gv g) (ht:jI gv mv ts ps.toList = some (ds,us))
  (hin:∀ q ∈ ps.toList,q.2 ∈ o.op.operands.toList):
  ∃ (S1:Nat → Prop) (β1:Key → Option Nat) (g1:yB) (V1:Nat → Option Value) (cs:List (List Value)),Rel H a.tmps.size g1 V1 w S1 β1 ∧ Step w S β w S1 β1 ∧ bK g1 V1 a.tmps.size ds cs ∧
   Rel H a.tmps.size (g.ups us) (oR a) w S1 β1 ∧ yK a.tmps.size (g.ups us) ∧ (ps.map fun (i,x)=>(i,a.eval x)).toList = dW ds cs:=by
 obtain ⟨S1,β1,g1,V1,cs,k1,k2,k3,k4,k5,k6,k7,k8,k9,k10,k11⟩:=AG2 hc.rel hs (BJ5 hs hc.dead) (fun i hi=>hc.dead i hi) (Nat.le_refl _) ht
 have hD:yK a.tmps.size (g.ups us):=hc.dead.ups k9
 refine ⟨S1,β1,g1,V1,cs,k1,k2,⟨k8,fun j p c h1 h2=>let ⟨e1,e2,e3,e4,_⟩:=k11 j p c h1 h2;⟨e1,e2,e3,e4⟩⟩,k1.fin (fun i hi=>(k5 i hi).1.symm) hD (fun i hi=>(k5 i hi).2.symm),hD,?_⟩
 rw [Array.toList_map]
 apply List.ext_getElem?
 intro j
 unfold dW
 rw [List.getElem?_map,List.getElem?_map]
 cases hp:ds[j]? with
 | none=>
  have hlen:ds.length = ps.toList.length:=by have:=congrArg List.length k10;simpa using this
  have h1:ps.toList[j]? = none:=by rw [List.getElem?_eq_none_iff] at hp ⊢;omega
  have h2:(ds.zip cs)[j]? = none:=by rw [List.getElem?_eq_none_iff] at hp ⊢;simp;omega
  rw [h1,h2];rfl
 | some p=>
  have hj:=(List.getElem?_eq_some_iff.1 hp).1
  have hc':cs[j]? = some (cs[j]'(by omega)):=List.getElem?_eq_getElem _
  obtain ⟨e1,e2,e3,e4,x,e5,e6⟩:=k11 j p _ hp hc'
  have h2:(ds.zip cs)[j]? = some (p,cs[j]'(by omega)):=by simp only [List.getElem?_zip_eq_some];exact ⟨hp,hc'⟩
  rw [e5,h2]
  simp only [Option.map_some]
  have hx1:x.1 = p.1:=by
   have:=congrArg (fun l=>l[j]?) k10
   simp only [List.getElem?_map,hp,e5,Option.map_some,Option.some.injEq] at this
   exact this.symm
  have:=zJ (e6 (fun q hq s hqs=>BP9 hc.opIn (hqs ▸ hin q hq)))
  rw [hx1,this]
theorem As8 {t e:TypeId} {τ:Ty} {z:Value} {n:Nat} {parts:Array (Nat × Value)} {r:Array Value} (h:SlOK E t e τ z) (hn:n * τ.size ≤ 16777216)
  (hf:Instr.fill (fun i=>some (i * τ.size,τ.size)) (fF z.cells (n * τ.size)) parts.toList = some r):
  (Instr.buildSlice t n parts).run E.P w = .ok (.slice (some ⟨w.heap.size,0,none⟩) n n) { w with heap:=w.heap.push (.cells r e) }:=by
 have hsz:(sizeOf e).run E.P w = .ok τ.size w:=tT h.elem
 unfold Instr.buildSlice
 simp only [Sem.run_bind,zC h.und,Result.andThen_ok,hsz]
 rw [if_neg (by omega)]
 by_cases h0:n * τ.size = 0
 ·have e0:fF z.cells 0 = #[]:=by simp [fF]
  rw [h0,e0] at hf
  have e2:Array.map (fun (_:Nat)=>(default:Value)) (Array.range 0) = #[]:=by simp
  simp [h0,newRow]
  rw [e2,hf]
  simp
 ·have:((Array.range (n * τ.size)).map fun x=>z.cells[x % z.cells.size]!) = fF z.cells (n * τ.size):=rfl
  simp only [h0,if_false,Sem.run_bind,h.zero,Result.andThen_ok,Sem.run_pure,this,hf,newRow,run_newObj]
theorem Ac1 {mv:Bool} {t:TypeId} {n:Nat} {ps:Array (Nat × Operand)} (hc:Ctx E.P H S β a w o g) (hs:Sub gv g) (hm:o.op = .buildSlice t n ps)
  (hk:iY E gv mv o t n ps some = some us):yM E.P H S β a w o (g.ups us):=by
 unfold iY at hk
 split at hk
 ·rename_i τ ht
  split at hk
  ·rename_i ds us1 htp
   split at hk
   ·rename_i hcond
    simp only [Bool.and_eq_true,Nat.ble_eq] at hcond
    obtain ⟨⟨hnd,hlt⟩,hsmall⟩:=hcond
    split at hk
    ·rename_i xs f hl hmf
     obtain ⟨dd,ho,rfl⟩:=yN hk
     obtain ⟨τ2,e,z,heq,hok⟩:=A6o ht
     simp only [Ty.sl.injEq] at heq
     subst heq
     obtain ⟨S1,β1,g1,V1,cs,k1,k2,k3,k4,k5,k6⟩:=AA4 hc hs htp (fun q hq=>by rw [hm];simp only [Op.operands,Array.toList_map];exact List.mem_map.2 ⟨q,hq,rfl⟩)
     have hd:=xS hc.opIn ho
     obtain ⟨r,S2,β2,q1,q2,q3,q4,q5,q6,q7⟩:=A2p (d:=dd) (Z:=fF z.cells (n * τ.size)) k1 k3 (Nat.le_refl _) hd hnd hlt hl hmf eV (fun i hi=>by rw [← hok.size,A3D hi];exact hok.cells)
     have hrun:=As8 (w:=w) (parts:=ps.map fun (i,x)=>(i,a.eval x)) hok hsmall (by rw [k6];exact q1)
     have hw':Pushed w { w with heap:=w.heap.push (.cells r e) } (.cells r e):=⟨rfl,rfl,rfl,rfl⟩
     have hsame:=(k2.trans q4).same hc.rel.sane
     intro K Q hK
     refine tX (w':={ w with heap:=w.heap.push (.cells r e) }) (v:=.slice (some ⟨w.heap.size,0,none⟩) n n) ?_ (hK _ _ S2 _ vC yW ?_ ((k2.trans q4).trans (Step.newB hw' [dd])))
     ·simp only [execOp,hm,Sem.run_bind]
      exact congrArg (fun r:Result Value=>Result.andThen r fun v w'=>Result.ok (Next.value v) w') hrun
     ·rw [ho,uF hd,xB]
      have hst:=q4.same k4.sane
      refine k4.put (q3.new hw' [dd]) (fun b hb=>⟨(hst b hb).1,sU hw' (k4.sane.liveS b hb)⟩) (fun j s b hj ha hb=>⟨?_,sU hw' (k4.sane.live _ b hb)⟩) (fun j hj=>by simp [upd,hj]) ?_
      ·unfold Ad5;rw [if_neg (by simp [hj])]
       exact q5 j s b hj (k5.lt ha) hb
      ·refine ⟨[.slice (some ⟨w.heap.size,0,none⟩) n n],?_,by simp [upd,yA,Ty.agg]⟩
       simp only [zP,Fl.base]
       refine ⟨by simp [nQ,Fl.pins],some ⟨w.heap.size,0,none⟩,n,by rw [q6],by rw [q6];exact Nat.le_refl _,.inr ⟨w.heap.size,0,r,rfl,by simp [Ad5],AF7.new hw' (.inl rfl),by rw [q2];omega,fun i y hy=>?_⟩⟩
       rw [Nat.zero_add]
       refine zL (fun b hb=>⟨hb,sU hw' (q3.liveS b hb)⟩) (fun s b hb=>⟨?_,sU hw' (q3.live _ b hb)⟩) (q7 i y hy)
       unfold Ad5;rw [if_neg (by simp)];exact hb
    ·cases hk
   ·cases hk
  ·cases hk
 ·cases hk
end
end Go.Rf

end
section
namespace Go.Rf
set_option linter.unusedSectionVars false
variable [T:Laid]
section
variable {P:Program} {H:Nat → Option (List Value)} {N:Nat} {g g' σ:yB} {V V':Nat → Option Value} {w w':World} {S S':Nat → Prop} {β β':Key → Option Nat} {a:Act} {o:Oper}
variable {E:Env} {gv:yB} {us:List Up}
def A8V (i:Nat):Key:=List.replicate i 1
theorem A8Z {i:Nat}:A8V (i + 1) = A8V i ++ [1]:=by simp [A8V,List.replicate_succ']
theorem Az4:∀ {i j:Nat} {s:Key},i ≠ j → rX (A8V i ++ [0]) (A8V j ++ [0] ++ s) = none
 | 0,0,_,h=>absurd rfl h
 | 0,j + 1,s,_=>by simp [A8V,List.replicate_succ,rX]
 | i + 1,0,s,_=>by simp [A8V,List.replicate_succ,rX]
 | i + 1,j + 1,s,h=>by
  have:=Az4 (i:=i) (j:=j) (s:=s) (by omega)
  simp only [A8V,List.replicate_succ,List.cons_append,rX,if_true] at this ⊢
  exact this
theorem A1C {c:List Value} {o n m:Nat}:(win c o (n + m)).take n = win c o n:=by
 simp [win,List.take_take]
theorem A0j {c:List Value} {o n m:Nat}:(win c o (n + m)).drop n = win c (o + n) m:=by
 simp only [win,List.drop_take,List.drop_drop]
 congr 1
 omega
theorem Ae1 {mv:Bool} {h:Nat → Option Dat} {zc rc:List Value} {K0:Key} {ty:TypeId → Option Ty}:∀ {fs:List Field} {off:Nat} {τ:Ty} {i:Nat} {x:τ.D} {f:Fl},lF ty fs off = some τ → AV5 mv τ i h = some (x,f) →
  nL τ (win zc off τ.size) = true →
  (∀ (j:Nat) (fl:Field) (a:Ty),fs[j]? = some fl → ty fl.type = some a → (∀ d x,h (i + j) = some d → lV d.t a d.x = some x → zP S β H w (K0 ++ A8V (i + j) ++ [0]) a d.f x (win rc fl.offset a.size)) ∧ (h (i + j) = none → win rc fl.offset a.size = win zc fl.offset a.size)) →
  zP S β H w (K0 ++ A8V i) τ f x (win rc off τ.size)
 | [],off,τ,i,x,f,hc,hb,hz,hp=>by
  simp only [lF,Option.some.injEq] at hc;subst hc
  simp only [AV5,Option.some.injEq,Prod.mk.injEq] at hb
  obtain ⟨rfl,rfl⟩:=hb
  exact yQ.2 (by simp [Rd,win,Ty.size])
 | fl :: fs,off,τ,i,x,f,hc,hb,hz,hp=>by
  simp only [lF] at hc
  split at hc
  ·rename_i a ha
   split at hc
   ·rename_i ho
    simp only [Nat.beq_eq] at ho
    simp only [Option.map_eq_some_iff] at hc
    obtain ⟨τ',hc,rfl⟩:=hc
    simp only [AV5] at hb
    split at hb
    ·rename_i y gf hb'
     simp only [nL,Ty.size,Bool.and_eq_true] at hz
     rw [A1C,A0j] at hz
     have ih:=Ae1 hc hb' hz.2 (fun j fl' a' h1 h2=>by
      have:=hp (j + 1) fl' a' (by simpa using h1) h2
      rw [show i + (j + 1) = i + 1 + j by omega] at this
      exact this)
     rw [A8Z,← List.append_assoc] at ih
     have h0:=hp 0 fl a rfl ha
     rw [Nat.add_zero,ho] at h0
     split at hb
     ·rename_i d hd
      simp only [Option.map_eq_some_iff,Prod.mk.injEq] at hb
      obtain ⟨x0,hx0,rfl,rfl⟩:=hb
      refine qN.2 ⟨?_,?_⟩
      ·simp only [Ty.size];rw [A1C];exact h0.1 d x0 hd hx0
      ·simp only [Ty.size];rw [A0j];exact ih
     ·rename_i hd
      simp only [Option.some.injEq,Prod.mk.injEq] at hb
      obtain ⟨rfl,rfl⟩:=hb
      refine qN.2 ⟨?_,?_⟩
      ·simp only [Ty.size];rw [A1C,h0.2 hd];exact pA mv hz.1
      ·simp only [Ty.size];rw [A0j];exact ih
    ·cases hb
   ·cases hc
  ·cases hc
theorem Ar5 {ty:TypeId → Option Ty}:∀ {fs:List Field} {off:Nat} {τ:Ty} {i:Nat} {a:Ty},lF ty fs off = some τ → dM τ i = some a →
  ∃ fl,fs[i]? = some fl ∧ ty fl.type = some a ∧ off ≤ fl.offset ∧ fl.offset + a.size ≤ off + τ.size
 | [],off,τ,i,a,hc,hf=>by
  simp only [lF,Option.some.injEq] at hc;subst hc
  simp [dM] at hf
 | fl :: fs,off,τ,i,a,hc,hf=>by
  simp only [lF] at hc
  split at hc
  ·rename_i a0 ha
   split at hc
   ·rename_i ho
    simp only [Nat.beq_eq] at ho
    simp only [Option.map_eq_some_iff] at hc
    obtain ⟨τ',hc,rfl⟩:=hc
    cases i with
    | zero=>
     simp only [dM,Option.some.injEq] at hf;subst hf
     exact ⟨fl,rfl,ha,by omega,by simp only [Ty.size];omega⟩
    | succ i=>
     simp only [dM] at hf
     obtain ⟨fl',h1,h2,h3,h4⟩:=Ar5 hc hf
     exact ⟨fl',by simpa using h1,h2,by omega,by simp only [Ty.size];omega⟩
   ·cases hc
  ·cases hc
theorem aI {ty:TypeId → Option Ty}:∀ {fs:List Field} {off:Nat} {τ:Ty} {i j:Nat} {fi fj:Field} {ai:Ty},lF ty fs off = some τ → i < j → fs[i]? = some fi → fs[j]? = some fj → ty fi.type = some ai → fi.offset + ai.size ≤ fj.offset
 | [],_,_,_,_,_,_,_,_,_,h,_,_=>by simp at h
 | fl :: fs,off,τ,i,j,fi,fj,ai,hc,hij,hi,hj,ha=>by
  simp only [lF] at hc
  split at hc
  ·rename_i a0 ha0
   split at hc
   ·rename_i ho
    simp only [Nat.beq_eq] at ho
    simp only [Option.map_eq_some_iff] at hc
    obtain ⟨τ',hc,rfl⟩:=hc
    cases j with
    | zero=>omega
    | succ j=>
     simp only [List.getElem?_cons_succ] at hj
     cases i with
     | zero=>
      simp only [List.getElem?_cons_zero,Option.some.injEq] at hi;subst hi
      rw [ha0] at ha;cases ha
      have:∀ {fs:List Field} {off:Nat} {τ:Ty} {j:Nat} {fj:Field},lF ty fs off = some τ → fs[j]? = some fj → off ≤ fj.offset:=by
       intro fs
       induction fs with
       | nil=>intro off τ j fj _ h;simp at h
       | cons f0 fs ih=>
        intro off τ j fj hc h
        simp only [lF] at hc
        split at hc
        ·split at hc
         ·rename_i ho
          simp only [Nat.beq_eq] at ho
          simp only [Option.map_eq_some_iff] at hc
          obtain ⟨τ',hc,rfl⟩:=hc
          cases j with
          | zero=>simp only [List.getElem?_cons_zero,Option.some.injEq] at h;subst h;omega
          | succ j=>have:=ih hc (by simpa using h);omega
         ·cases hc
        ·cases hc
      have:=this hc hj
      omega
     | succ i=>exact aI (i:=i) (j:=j) hc (by omega) (by simpa using hi) hj ha
   ·cases hc
  ·cases hc
theorem Ae4 {d:Nat}:∀ {fs:List Field} {off:Nat} {τ:Ty},lF (tyN P (d + 1)) fs off = some τ → ∃ pl:List (Nat × Nat),fs.mapM (fun f=>(P.info? f.type).map fun i=>(f.offset,i.size)) = some pl ∧
  ∀ (j:Nat) (fl:Field) (a:Ty),fs[j]? = some fl → tyN P (d + 1) fl.type = some a → pl[j]? = some (fl.offset,a.size)
 | [],_,_,_=>⟨[],by simp,by simp⟩
 | fl :: fs,off,τ,hc=>by
  simp only [lF] at hc
  split at hc
  ·rename_i a0 ha0
   split at hc
   ·simp only [Option.map_eq_some_iff] at hc
    obtain ⟨τ',hc,rfl⟩:=hc
    obtain ⟨pl,h1,h2⟩:=Ae4 hc
    obtain ⟨i,u,e1,_,e3,_⟩:=mR ha0
    refine ⟨(fl.offset,i.size) :: pl,by simp [List.mapM_cons,e1,h1],fun j f a hj ha=>?_⟩
    cases j with
    | zero=>
     simp only [List.getElem?_cons_zero,Option.some.injEq] at hj ⊢;subst hj
     rw [ha0] at ha;cases ha;rw [e3]
    | succ j=>simpa using h2 j f a (by simpa using hj) ha
   ·cases hc
  ·cases hc
end
end Go.Rf

end
section
namespace Go.Rf
set_option linter.unusedSectionVars false
variable [T:Laid]
section
variable {P:Program} {H:Nat → Option (List Value)} {N:Nat} {g g' σ:yB} {V V':Nat → Option Value} {w w':World} {S S':Nat → Prop} {β β':Key → Option Nat} {a:Act} {o:Oper}
variable {E:Env} {gv:yB} {us:List Up}
theorem A0Q {ρ:Operand → Value} {t:TypeId} {ps:Array (Nat × Operand)} {r:Array Value} {l:List (Nat × Value)} (ho:o.op = .build t ps) (hl:(ps.map fun (i,x)=>(i,ρ x)).toList = l) (hb:P.built t l = some r):
  (execOp ρ o).run P w = .ok (.value (.agg r)) w:=by
 have:=run_build (P:=P) w t (ps.map fun (i,x)=>(i,ρ x)) r (by rw [hl];exact hb)
 simp only [execOp,ho,Sem.run_bind]
 exact congrArg (fun r:Result Value=>Result.andThen r fun v w'=>Result.ok (Next.value v) w') this
theorem A9G {t:TypeId} {τ:Ty} (h:E.tz t = some τ):∃ it z,E.P.info? t = some it ∧ it.zero = some z ∧ nL τ z.cells.toList = true:=by
 unfold Env.tz at h
 split at h
 ·split at h
  ·rename_i hz
   simp only [Option.some.injEq] at h;subst h
   unfold Env.zok at hz
   split at hz
   ·rename_i i hi
    split at hz
    ·rename_i v hv
     exact ⟨i,v,hi,hv,hz⟩
    ·cases hz
   ·cases hz
  ·cases h
 ·cases h
theorem A3j {d:Nat} {t:Ty} {x:t.D} {f:Fl} {r:Array Value} {S1 S2:Nat → Prop} {β1 β2:Key → Option Nat} (hc:Ctx P H S β a w o g) (ho:o.dst = some d) (hr:(execOp a.eval o).run P w = .ok (.value (.agg r)) w) (hag:t.agg = true)
  (h:Rel H a.tmps.size (g.ups us) (oR a) w S1 β1) (hD:yK a.tmps.size (g.ups us)) (hst:Step w S β w S1 β1) (hs:Sane w S2 β2) (hst2:Step w S1 β1 w S2 β2)
  (hβ:∀ j s b,j ≠ d → j < a.tmps.size → β1 (j :: s) = some b → β2 (j :: s) = some b) (hv:zP S2 β2 H w [d] t f x r.toList):yM P H S β a w o (g.ups (us ++ [.put d (.dat ⟨t,x,f⟩)])):=by
 intro K Q hK
 have hd:=xS hc.opIn ho
 refine tX hr (hK _ _ S2 β2 vC yW ?_ (hst.trans hst2))
 rw [ho,uF hd,xB]
 refine h.put hs (fun b hb=>⟨hst2.keepS b hb,rfl⟩) (fun j s b hj ha hb=>⟨hβ j s b hj (hD.lt ha) hb,rfl⟩) (fun j hj=>by simp [upd,hj]) ⟨r.toList,hv,?_⟩
 simp [upd,yA,hag]
theorem A3I {mv:Bool} {t:TypeId} {ps:Array (Nat × Operand)} (hc:Ctx E.P H S β a w o g) (hs:Sub gv g) (hm:o.op = .build t ps)
  (hk:A0S E gv mv o t ps some = some us):yM E.P H S β a w o (g.ups us):=by
 have hops:∀ q ∈ ps.toList,q.2 ∈ o.op.operands.toList:=fun q hq=>by rw [hm];simp only [Op.operands,Array.toList_map];exact List.mem_map.2 ⟨q,hq,rfl⟩
 unfold A0S at hk
 split at hk
 ·rename_i n τ ht
  obtain ⟨it,z,hit,hz,hzc⟩:=A9G ht
  have hty:=(A9m ht).1
  split at hk
  ·rename_i ds us1 htp
   split at hk
   ·rename_i hcond
    simp only [Bool.and_eq_true] at hcond
    obtain ⟨hnd,hlt⟩:=hcond
    split at hk
    ·rename_i xs f hl hmf
     obtain ⟨dd,ho,rfl⟩:=yN hk
     obtain ⟨e,he,h7⟩:=An9 hty
     obtain ⟨ie,u,h71,_,h73,_⟩:=mR h7
     simp only [nL] at hzc
     obtain ⟨hz1,hz2⟩:=A0m (fun c hc=>zU (pA (S:=fun _=>False) (β:=fun _=>none) (H:=fun _=>none) (w:=w) false (k:=[]) hc)) hzc
     obtain ⟨S1,β1,g1,V1,cs,k1,k2,k3,k4,k5,k6⟩:=AA4 hc hs htp hops
     have hd:=xS hc.opIn ho
     obtain ⟨r,S2,β2,q1,q2,q3,q4,q5,q6,q7⟩:=A2p (d:=dd) (Z:=z.cells) k1 k3 (Nat.le_refl _) hd hnd hlt hl hmf (by simpa using hz1) hz2
     have hbuilt:E.P.built t (dW ds cs) = some r:=by
      unfold Program.built
      rw [hit,he]
      simp only [hz,h71,h73]
      exact q1
     refine A3j hc ho (A0Q hm k6 hbuilt) rfl k4 k5 k2 q3 q4 q5 (AJ5.2 ⟨q6,by simpa using q2,fun i y hy=>q7 i y hy⟩)
    ·cases hk
   ·cases hk
  ·cases hk
 ·rename_i τ hnot ht
  obtain ⟨it,z,hit,hz,hzc⟩:=A9G ht
  have hty:=(A9m ht).1
  split at hk
  ·rename_i ds us1 htp
   split at hk
   ·rename_i hcond
    simp only [Bool.and_eq_true] at hcond
    obtain ⟨hnd,hfld⟩:=hcond
    split at hk
    ·rename_i x f hb
     obtain ⟨dd,ho,rfl⟩:=yN hk
     have hstruct:∃ fs,E.P.underlying t = some (.struct fs) ∧ lF (tyN E.P 7) fs.toList 0 = some τ ∧ τ.agg = true:=by
      obtain ⟨i,u,_,h2,_,h4⟩:=mR hty
      unfold nX at h4
      have nob:∀ τ:Ty,(∀ a b,τ ≠ .pair a b) → τ ≠ .unit → ∀ (x:τ.D) f,AV5 mv τ 0 (gX ds) ≠ some (x,f):=fun τ h1 h2 x f e=>by
       cases τ <;> simp [AV5] at e <;> first | exact h2 rfl | exact h1 _ _ rfl
      cases u <;> simp only at h4 <;> first
       | (exfalso;exact h4)
       | (subst h4;exact absurd hb (nob _ (by simp) (by simp) _ _))
       | (obtain ⟨a,_,rfl⟩:=h4;exact absurd hb (nob _ (by simp) (by simp) _ _))
       | (refine ⟨_,h2,h4,?_⟩;rcases oS h4 with rfl | ⟨_,_,rfl⟩ <;> rfl)
     obtain ⟨fs,hfs,hch,hag⟩:=hstruct
     obtain ⟨S1,β1,g1,V1,cs,k1,k2,k3,k4,k5,k6⟩:=AA4 hc hs htp hops
     have hd:=xS hc.opIn ho
     obtain ⟨pl,hpl1,hpl2⟩:=Ae4 (d:=6) hch
     have hzl:z.cells.toList.length = τ.size:=zU (pA (S:=fun _=>False) (β:=fun _=>none) (H:=fun _=>none) (w:=w) false (k:=[]) hzc)
     have buildT:∀ {τ:Ty} {i j:Nat} {x:τ.D} {f:Fl} {a:Ty} {d:Dat},AV5 mv τ i (gX ds) = some (x,f) → dM τ j = some a → gX ds (i + j) = some d → d.t = a:=by
      intro τ
      induction τ with
      | pair s u _ ihu=>
       intro i j x f a d hb hf hp
       simp only [AV5] at hb
       split at hb
       ·rename_i y gf hb'
        cases j with
        | zero=>
         simp only [dM,Option.some.injEq] at hf;subst hf
         rw [Nat.add_zero] at hp
         rw [hp] at hb
         simp only [Option.map_eq_some_iff] at hb
         obtain ⟨x0,hx0,_⟩:=hb
         exact (vV hx0).1
        | succ j=>
         simp only [dM] at hf
         exact ihu hb' hf (by rw [show i + 1 + j = i + (j + 1) by omega];exact hp)
       ·cases hb
      | _=>intro i j x f a d hb hf hp;simp [dM] at hf
     have hpart:∀ (j:Nat) (p:Nat × Dat),ds[j]? = some p → gX ds p.1 = some p.2:=by
      intro j p hj
      cases he:gX ds p.1 with
      | none=>exact absurd rfl (AB9 he p (List.mem_of_getElem? hj))
      | some e=>
       obtain ⟨j',p',h1,h2,h3⟩:=AC2 he
       have hi1:=(List.getElem?_eq_some_iff.1 h1)
       have hi2:=(List.getElem?_eq_some_iff.1 hj)
       have hpw:=List.pairwise_iff_getElem.1 (kN hnd)
       by_cases e':j' = j
       ·subst e';rw [h1] at hj;cases hj;rw [h3]
       ·exfalso
        rcases Nat.lt_or_gt_of_ne e' with hlt2 | hlt2
        ·have:=hpw j' j (by simp;exact hi1.1) (by simp;exact hi2.1) hlt2
         simp only [List.getElem_map] at this
         rw [hi1.2,hi2.2] at this;exact this h2
        ·have:=hpw j j' (by simp;exact hi2.1) (by simp;exact hi1.1) hlt2
         simp only [List.getElem_map] at this
         rw [hi1.2,hi2.2] at this;exact this h2.symm
     have hfield:∀ (j:Nat) (p:Nat × Dat),ds[j]? = some p → ∃ fl,fs.toList[p.1]? = some fl ∧ tyN E.P 7 fl.type = some p.2.t ∧ fl.offset + p.2.t.size ≤ τ.size ∧ pl[p.1]? = some (fl.offset,p.2.t.size):=by
      intro j p hj
      have:=List.all_eq_true.1 hfld p (List.mem_of_getElem? hj)
      obtain ⟨a0,ha0⟩:=Option.isSome_iff_exists.1 this
      have hta:=buildT hb ha0 (by rw [Nat.zero_add];exact hpart j p hj)
      rw [← hta] at ha0
      obtain ⟨fl,h1,h2,_,h4⟩:=Ar5 hch ha0
      exact ⟨fl,h1,h2,by omega,hpl2 _ fl _ h1 h2⟩
     obtain ⟨β2,q1,q2,q3,q4⟩:=A2j (dst:=fun i=>dd :: (A8V i ++ [0])) k1 k3 hd (Nat.le_refl _) hnd (fun i=>⟨_,rfl⟩) (fun i j s hij=>by
      have:=Az4 (s:=s) hij
      simp only [List.cons_append,rX,if_true]
      exact this)
     have hone:∀ (j:Nat) (p:Nat × Dat) (c:List Value),ds[j]? = some p → cs[j]? = some c → (yA p.2.t c).cells = c.toArray ∧ c.length = p.2.t.size:=fun j p c h1 h2=>Ap6 k1 k3 h1 h2
     obtain ⟨r,r1,r2,r3,r4⟩:=A4J (place:=(pl.toArray[·]?)) (ps:=dW ds cs) (cells:=z.cells) (fun p hp=>by
      obtain ⟨j,q,c,h1,h2,rfl⟩:=AK9 hp
      obtain ⟨e1,e2⟩:=hone j q c h1 h2
      obtain ⟨fl,f1,f2,f3,f4⟩:=hfield j q h1
      refine ⟨fl.offset,?_,?_⟩
      ·simp only [e1];simpa [e2] using f4
      ·simp only [e1];simp only [List.size_toArray,e2]
       have:z.cells.size = τ.size:=by simpa using hzl
       omega) (by
      unfold dW
      rw [List.pairwise_map,List.pairwise_iff_getElem]
      intro i j hi hj hij
      simp only [List.length_zip] at hi hj
      simp only [List.getElem_zip]
      have hne:(ds[i]'(by omega)).1 ≠ (ds[j]'(by omega)).1:=by
       intro e
       have:=(List.pairwise_iff_getElem.1 (kN hnd)) i j (by simp;omega) (by simp;omega) hij
       simp only [List.getElem_map] at this
       exact this e
      obtain ⟨fl,f1,f2,f3,f4⟩:=hfield i (ds[i]'(by omega)) (List.getElem?_eq_getElem _)
      obtain ⟨fl',f1',f2',f3',f4'⟩:=hfield j (ds[j]'(by omega)) (List.getElem?_eq_getElem _)
      intro o1 s1 o2 s2 h1 h2
      simp only [List.getElem?_toArray] at h1 h2
      rw [f4] at h1
      rw [f4'] at h2
      simp only [Option.some.injEq,Prod.mk.injEq] at h1 h2
      obtain ⟨rfl,rfl⟩:=h1
      obtain ⟨rfl,rfl⟩:=h2
      rcases Nat.lt_or_gt_of_ne hne with hl | hl
      ·exact .inl (aI hch hl f1 f1' f2)
      ·exact .inr (aI hch hl f1' f1 f2'))
     have hbuilt:E.P.built t (dW ds cs) = some r:=by
      unfold Program.built
      rw [hit,hfs]
      simp only [hz,hpl1]
      exact r1
     have hwz:win z.cells.toList 0 τ.size = z.cells.toList:=by rw [← hzl];exact bH _
     have hrl:r.toList.length = τ.size:=by rw [← hzl];simpa using r2
     have hv:=Ae1 (S:=S1) (β:=β2) (H:=H) (w:=w) (mv:=mv) (zc:=z.cells.toList) (rc:=r.toList) (K0:=[dd]) (i:=0) hch hb (by rw [hwz];exact hzc) (fun j fl a hj ha=>by
      rw [Nat.zero_add]
      refine ⟨fun d x hd' hx=>?_,fun hnone=>?_⟩
      ·obtain ⟨j',p,h1,h2,h3⟩:=AC2 hd'
       have hjc:∃ c,cs[j']? = some c:=by
        have:=(List.getElem?_eq_some_iff.1 h1).1
        exact ⟨cs[j']'(by rw [k3.1];exact this),List.getElem?_eq_getElem _⟩
       obtain ⟨c,hcc⟩:=hjc
       obtain ⟨e1,e2⟩:=hone j' p c h1 hcc
       obtain ⟨fl',f1,f2,f3,f4⟩:=hfield j' p h1
       rw [h2] at f1 f4
       rw [hj] at f1
       cases f1
       rw [ha] at f2
       have hta:a = p.2.t:=Option.some.inj f2
       have hwin:=r3 (p.1,yA p.2.t c) (by
        unfold dW
        rw [List.mem_map]
        refine ⟨(p,c),?_,rfl⟩
        exact List.mem_of_getElem? (i:=j') (by simp only [List.getElem?_zip_eq_some];exact ⟨h1,hcc⟩)) fl.offset p.2.t.size (by simpa [h2] using f4)
       simp only [e1] at hwin
       have hvp:=q4 j' p c h1 hcc
       simp only [h2] at hvp
       subst h3
       obtain ⟨pi,pt,px,pf⟩:=p
       simp only at *
       subst hta
       obtain ⟨het,hex⟩:=vV hx
       rw [hwin]
       have hxe:x = px:=by rw [hex]
       rw [hxe]
       simpa using hvp
      ·refine r4 _ _ (fun p hpm off s hpls=>?_)
       obtain ⟨j',q,c,h1,h2,rfl⟩:=AK9 hpm
       obtain ⟨fl',f1,f2,f3,f4⟩:=hfield j' q h1
       simp only [List.getElem?_toArray] at hpls
       rw [f4] at hpls
       simp only [Option.some.injEq,Prod.mk.injEq] at hpls
       obtain ⟨rfl,rfl⟩:=hpls
       have hne:q.1 ≠ j:=AB9 hnone q (List.mem_of_getElem? h1)
       rcases Nat.lt_or_gt_of_ne hne with hl | hl
       ·exact .inr (aI hch hl f1 hj f2)
       ·exact .inl (aI hch hl hj f1 ha))
     rw [show win r.toList 0 τ.size = r.toList by rw [← hrl];exact bH _] at hv
     exact A3j hc ho (A0Q hm k6 hbuilt) hag k4 k5 k2 q1 q2 q3 (by simpa [A8V] using hv)
    ·cases hk
   ·cases hk
  ·cases hk
 ·cases hk
end
end Go.Rf

end
section
namespace Go.Rf
set_option linter.unusedSectionVars false
variable [T:Laid]
section
variable {S:Nat → Prop} {β:Key → Option Nat} {H:Nat → Option (List Value)} {w w':World} {b₀ o₀ o len cap:Nat} {cd:List Value}
structure Behind (S:Nat → Prop) (β:Key → Option Nat) (w w':World) (kp:Key) (b₀ o₀:Nat) (cd:List Value):Prop where
 chg:Chg w w' b₀ o₀ cd
 own:∀ key,β key = some b₀ → key = kp
 nS:¬ S b₀
theorem Behind.keep {kp:Key} (h:Behind S β w w' kp b₀ o₀ cd):∀ b,S b → S b ∧ w'.heap[b]? = w.heap[b]?:=fun b hb=>⟨hb,h.chg.other b fun e=>h.nS (e ▸ hb)⟩
theorem Behind.aside {kp k:Key} (h:Behind S β w w' kp b₀ o₀ cd) (hk:∀ s,k ++ s ≠ kp):∀ s b,β (k ++ s) = some b → β (k ++ s) = some b ∧ w'.heap[b]? = w.heap[b]?:=fun s b hb=>
 ⟨hb,h.chg.other b fun e=>hk s (h.own _ (e ▸ hb))⟩
theorem AK5:∀ {p:List PS} {t:Ty} {f:Fl} {x:t.D} {k:Key} {L:Loc} {c:List Value} {τ:Ty} {xs:List τ.D} {g:Fl} {L':Loc},
  xA p t f x = some ⟨.sl τ,xs,g⟩ → g.base = .own .sh → inB p t x → zF w t.size L = some c → zP S β H w k t f x c → uH w t L p = some (.sl τ,L') → zF w 1 L' = some [.slice (some ⟨b₀,o,none⟩) len cap] → o + len * τ.size ≤ o₀ →
  Behind S β w w' (k ++ xP p) b₀ o₀ cd → zP S β H w' k t f x c
 | [],t,f,x,k,L,c,τ,xs,g,L',hg,hgb,hb,hc,hv,hw,hL,ho,hB=>by
  simp only [xA,Option.some.injEq] at hg
  cases hg
  simp only [uH,Option.some.injEq,Prod.mk.injEq,true_and] at hw
  subst hw
  have hcl:=kL hc
  simp only [Ty.size] at hc
  rw [hL] at hc
  simp only [Option.some.injEq] at hc
  subst hc
  simp only [zP] at hv ⊢
  refine ⟨hv.1,?_⟩
  replace hv:=hv.2
  rw [hgb] at hv ⊢
  obtain ⟨ad,cap',e,hlc,hv⟩:=hv
  simp only [List.cons.injEq,Value.slice.injEq,and_true] at e
  obtain ⟨rfl,rfl,rfl⟩:=e
  refine ⟨_,_,rfl,hlc,hv.imp id ?_⟩
  rintro ⟨b,oo,cs,e,hk,hob,hz,hv⟩
  simp only [Option.some.injEq,Addr.mk.injEq,and_true] at e
  obtain ⟨rfl,rfl⟩:=e
  obtain ⟨cs',hB',hz',hcs,hle⟩:=hB.chg.size hob
  refine ⟨_,_,cs',rfl,hk,hB',by rw [hz'];exact hz,fun i y hy=>?_⟩
  have hi:i < List.length xs:=by unfold nth at hy;exact (List.getElem?_eq_some_iff.1 hy).1
  have hlt:(i + 1) * τ.size ≤ List.length xs * τ.size:=Nat.mul_le_mul_right _ hi
  rw [Nat.add_mul,Nat.one_mul] at hlt
  rw [hcs,uI (by simpa using hle) (.inl (by omega))]
  have:=hv i y hy
  rw [yQ] at this ⊢
  exact zR hB.keep this
 | .fst :: p,.pair s u,f,x,k,L,c,τ,xs,g,L',hg,hgb,hb,hc,hv,hw,hL,ho,hB=>by
  simp only [xA] at hg
  have hne:=nF hg (by rw [hgb];simp)
  have hpar:=vI hv
  have h1:=hpar.1
  rw [nM] at h1
  have hkey:k ++ xP (.fst :: p) = (k ++ [0]) ++ xP p:=by simp [xP]
  have ih:=AK5 hg hgb (by simpa [inB] using hb) (zZ (i:=0) (m:=s.size) hc (by simp [Ty.size])) h1 (by simpa [uH,wA] using hw) hL ho (hkey ▸ hB)
  rw [← nM] at ih
  have h2:=zL hB.keep (hB.aside (k:=k ++ [1]) (fun q=>by simp [xP])) hpar.2
  rcases Af6 hne with hf | ⟨f1,f2,hf⟩
  ·have:=iZ (p:=p) (by rw [cD,hf];rfl) hg
   rw [hgb] at this;cases this
  ·simp only [zP] at hv ⊢
   refine ⟨hv.1,?_⟩
   rw [cD,hf] at ih
   rw [cR,hf] at h2
   rw [hf];exact ⟨ih,h2⟩
 | .snd :: p,.pair s u,f,x,k,L,c,τ,xs,g,L',hg,hgb,hb,hc,hv,hw,hL,ho,hB=>by
  simp only [xA] at hg
  have hne:=nF hg (by rw [hgb];simp)
  have hpar:=vI hv
  have hl:=zU hv
  have h1:=hpar.2
  rw [nK (by simpa [Ty.size] using hl)] at h1
  have hkey:k ++ xP (.snd :: p) = (k ++ [1]) ++ xP p:=by simp [xP]
  have ih:=AK5 hg hgb (by simpa [inB] using hb) (zZ (i:=s.size) (m:=u.size) hc (by simp [Ty.size])) h1 (by simpa [uH,wA] using hw) hL ho (hkey ▸ hB)
  rw [← nK (by simpa [Ty.size] using hl)] at ih
  have h2:=zL hB.keep (hB.aside (k:=k ++ [0]) (fun q=>by simp [xP])) hpar.1
  rcases Ag6 hne with hf | ⟨f1,f2,hf⟩
  ·have:=iZ (p:=p) (by rw [cR,hf];rfl) hg
   rw [hgb] at this;cases this
  ·simp only [zP] at hv ⊢
   refine ⟨hv.1,?_⟩
   rw [cR,hf] at ih
   rw [cD,hf] at h2
   rw [hf];exact ⟨h2,ih⟩
 | .der :: p,.ptr t,f,x,k,L,c,τ,xs,g,L',hg,hgb,hb,hc,hv,hw,hL,ho,hB=>by
  simp only [xA] at hg
  have hne:=nF hg (by rw [hgb];simp)
  rcases qI hne with hf | ⟨e,hf⟩
  ·have:=iZ (p:=p) (by rw [oY,hf];rfl) hg
   rw [hgb] at this;cases this
  ·simp only [zP] at hv ⊢
   refine ⟨hv.1,?_⟩
   replace hv:=hv.2
   rw [hf] at hv ⊢
   obtain ⟨b,cs,rfl,hk,hob,hz,hv⟩:=hv
   have hbb:b ≠ b₀:=fun e'=>by
    have:=hB.own _ (e' ▸ hk)
    simp [xP] at this
   refine ⟨b,cs,rfl,hk,hob.same (hB.chg.other b hbb),hz,?_⟩
   simp only [Ty.size] at hc
   simp only [uH,wA,hc] at hw
   have hc':=zM (o:=0) (n:=t.size) hob.blk (by omega)
   have:win cs.toList 0 t.size = cs.toList:=by rw [← hz,← Array.length_toList];exact bH _
   rw [this] at hc'
   have hkey:k ++ xP (.der :: p) = (k ++ [0]) ++ xP p:=by simp [xP]
   rw [oY,hf] at hg
   exact AK5 hg hgb (by simpa [inB] using hb) hc' hv hw hL ho (hkey ▸ hB)
 | .idx i :: p,.arr n t,f,x,k,L,c,τ,xs,g,L',hg,hgb,hb,hc,hv,hw,hL,ho,hB=>by
  simp only [xA] at hg
  simp only [inB] at hb
  have hne:=nF hg (by rw [hgb];simp)
  obtain ⟨hx,hcl,hel⟩:=iI hne hv
  rcases Ah7 hne with hf | ⟨e,hf⟩
  ·have:=iZ (p:=p) (by rw [AD4,hf];rfl) hg
   rw [hgb] at this;cases this
  ·have hkey:k ++ xP (.idx i :: p) = (k ++ [i]) ++ xP p:=by simp [xP]
   have hlt:(i + 1) * t.size ≤ n * t.size:=Nat.mul_le_mul_right _ hb.1
   rw [Nat.add_mul] at hlt
   simp only [zP] at hv ⊢
   refine ⟨hv.1,?_⟩
   rw [hf]
   refine ⟨hx,hcl,fun j y hy=>?_⟩
   have hel':=hel j y hy
   rw [AD4,hf] at hel'
   simp only [Fl.a] at hel'
   by_cases hij:j = i
   ·subst hij
    have hyd:y = List.getD x j t.dflt:=by
     have:=qM (z:=t.dflt) (show j < List.length x by omega)
     rw [hy] at this;exact Option.some.inj this
    subst hyd
    simp only [uH,wA,hb.1,if_true] at hw
    rw [AD4,hf] at hg
    exact AK5 hg hgb hb.2 (zZ (i:=j * t.size) (m:=t.size) hc (by simp only [Ty.size];omega)) hel' hw hL ho (hkey ▸ hB)
   ·exact zL hB.keep (hB.aside (k:=k ++ [j]) (fun q=>by simp [xP,hij])) hel'
 | .elm i :: p,.sl t,f,x,k,L,c,τ,xs,g,L',hg,hgb,hb,hc,hv,hw,hL,ho,hB=>by
  simp only [xA] at hg
  simp only [inB] at hb
  have hne:=nF hg (by rw [hgb];simp)
  rcases qI hne with hf | ⟨e,hf⟩
  ·have:=iZ (p:=p) (by rw [oY,hf];rfl) hg
   rw [hgb] at this;cases this
  ·have hkey:k ++ xP (.elm i :: p) = (k ++ [i]) ++ xP p:=by simp [xP]
   simp only [zP] at hv ⊢
   refine ⟨hv.1,?_⟩
   replace hv:=hv.2
   rw [hf] at hv ⊢
   obtain ⟨ad,cap',rfl,hlc,hv⟩:=hv
   refine ⟨ad,cap',rfl,hlc,hv.imp id ?_⟩
   rintro ⟨b,oo,cs,rfl,hk,hob,hz,hv⟩
   have hbb:b ≠ b₀:=fun e'=>by
    have:=hB.own _ (e' ▸ hk)
    simp [xP] at this
   refine ⟨b,oo,cs,rfl,hk,hob.same (hB.chg.other b hbb),hz,fun j y hy=>?_⟩
   by_cases hij:j = i
   ·subst hij
    have hyd:y = List.getD x j t.dflt:=by
     have:=qM (z:=t.dflt) hb.1
     rw [hy] at this;exact Option.some.inj this
    subst hyd
    simp only [Ty.size] at hc
    simp only [uH,wA,hc,hb.1,if_true] at hw
    rw [oY,hf] at hg
    have hlt:(j + 1) * t.size ≤ cap' * t.size:=Nat.mul_le_mul_right _ (by have:=hb.1;omega)
    rw [Nat.add_mul] at hlt
    exact AK5 hg hgb hb.2 (zM (o:=oo + j * t.size) (n:=t.size) hob.blk (by omega)) (hv j _ hy) hw hL ho (hkey ▸ hB)
   ·exact zL hB.keep (hB.aside (k:=k ++ [j]) (fun q=>by simp [xP,hij])) (hv j y hy)
theorem AL5:∀ {q p:List PS} {t:Ty} {f:Fl} {x:t.D} {k:Key} {L:Loc} {c:List Value} {τ:Ty} {xs:List τ.D} {g:Fl} {L':Loc} {d:Dat},
  xA q t f x = some d → d.f.base ≠ .gone → inB q t x →
  xA p t f x = some ⟨.sl τ,xs,g⟩ → g.base = .own .sh → inB p t x → zF w t.size L = some c → zF w' t.size L = some c → zP S β H w k t f x c → uH w t L p = some (.sl τ,L') → zF w 1 L' = some [.slice (some ⟨b₀,o,none⟩) len cap] → o + len * τ.size ≤ o₀ →
  Behind S β w w' (k ++ xP p) b₀ o₀ cd →
  ∃ Lq cq,uH w t L q = some (d.t,Lq) ∧ uH w' t L q = some (d.t,Lq) ∧ zF w d.t.size Lq = some cq ∧ zF w' d.t.size Lq = some cq
 | [],p,t,f,x,k,L,c,τ,xs,g,L',d,hq,hqn,hqb,hg,hgb,hb,hc,hcc,hv,hw,hL,ho,hB=>by
  simp only [xA,Option.some.injEq] at hq;subst hq
  exact ⟨L,c,rfl,rfl,hc,hcc⟩
 | s :: q,[],t,f,x,k,L,c,τ,xs,g,L',d,hq,hqn,hqb,hg,hgb,hb,hc,hcc,hv,hw,hL,ho,hB=>by
  simp only [xA,Option.some.injEq] at hg
  cases hg
  simp only [uH,Option.some.injEq,Prod.mk.injEq,true_and] at hw
  subst hw
  cases s <;> simp only [xA,reduceCtorEq] at hq
  rename_i i
  simp only [inB] at hqb
  have hne:f.e.base ≠ .gone:=nF hq hqn
  obtain ⟨b,oo,cs,m,cap',rfl,him,hs,hBl,hz,hv'⟩:=A1k hne hv (qM (z:=τ.dflt) hqb.1)
  simp only [Ty.size] at hc hcc
  rw [hL] at hc
  simp only [Option.some.injEq,List.cons.injEq,Value.slice.injEq,Addr.mk.injEq,and_true] at hc
  obtain ⟨⟨rfl,rfl⟩,rfl,rfl⟩:=hc
  have hxl:len = List.length xs:=by
   simp only [zP] at hv
   replace hv:=hv.2
   rw [hgb] at hv
   obtain ⟨ad,cp,e,_⟩:=hv
   simp only [List.cons.injEq,Value.slice.injEq,and_true] at e
   exact e.2.1
  rw [Nat.add_mul,Nat.one_mul] at hz
  have hlt:(i + 1) * τ.size ≤ len * τ.size:=Nat.mul_le_mul_right _ him
  rw [Nat.add_mul,Nat.one_mul] at hlt
  obtain ⟨cs1,e1,fz1,cs1',t1,t2,t3,t4⟩:=hB.chg.this
  have hcs:cs = cs1:=hBl.inj ⟨e1,fz1,t1⟩
  subst hcs
  have hsz:cs1'.size = cs.size:=by
   have:=congrArg List.length t3
   rw [iR (by simpa using t4)] at this
   simpa using this
  have hc1:=zM (o:=o + i * τ.size) (n:=τ.size) hBl (by omega)
  have hc2:zF w' τ.size (.mem b₀ (o + i * τ.size)) = some (win cs.toList (o + i * τ.size) τ.size):=by
   rw [zM (o:=o + i * τ.size) (n:=τ.size) ⟨e1,fz1,t2⟩ (by omega),t3,uI (by simpa using t4) (.inl (by omega))]
  obtain ⟨Lq,cq,h1,h2,h3,h4,_⟩:=pF (fun b hb=>(hB.keep b hb).2) (k:=k ++ [i]) (fun s b hb=>(hB.aside (k:=k ++ [i]) (fun q=>by simp [xP]) s b hb).2) hq hqb.2 hqn hc1 hc2 hv'
  exact ⟨Lq,cq,by simp only [uH,wA,hL,him,if_true];exact h1,by simp only [uH,wA,hcc,him,if_true];exact h2,h3,h4⟩
 | r :: q,s :: p,t,f,x,k,L,c,τ,xs,g,L',d,hq,hqn,hqb,hg,hgb,hb,hc,hcc,hv,hw,hL,ho,hB=>by
  cases r <;> cases t <;> cases s <;> (try simp only [xA,reduceCtorEq] at hq) <;> (try simp only [xA,reduceCtorEq] at hg)
  case fst.pair.fst=>
   rename_i a b
   have h1:=(vI hv).1
   rw [nM] at h1
   obtain ⟨Lq,cq,k1,k2,k3,k4⟩:=AL5 (k:=k ++ [0]) hq hqn (by simpa [inB] using hqb) hg hgb (by simpa [inB] using hb) (zZ (i:=0) (m:=a.size) hc (by simp [Ty.size])) (zZ (i:=0) (m:=a.size) hcc (by simp [Ty.size])) h1 (by simpa [uH,wA] using hw) hL ho (by simpa [xP] using hB)
   exact ⟨Lq,cq,by simpa [uH,wA] using k1,by simpa [uH,wA] using k2,k3,k4⟩
  case snd.pair.snd=>
   rename_i a b
   have hl:=zU hv
   have h1:=(vI hv).2
   rw [nK (by simpa [Ty.size] using hl)] at h1
   obtain ⟨Lq,cq,k1,k2,k3,k4⟩:=AL5 (k:=k ++ [1]) hq hqn (by simpa [inB] using hqb) hg hgb (by simpa [inB] using hb) (zZ (i:=a.size) (m:=b.size) hc (by simp [Ty.size])) (zZ (i:=a.size) (m:=b.size) hcc (by simp [Ty.size])) h1 (by simpa [uH,wA] using hw) hL ho (by simpa [xP] using hB)
   exact ⟨Lq,cq,by simpa [uH,wA] using k1,by simpa [uH,wA] using k2,k3,k4⟩
  case fst.pair.snd=>
   rename_i a b
   have h1:=(vI hv).1
   rw [nM] at h1
   obtain ⟨Lq,cq,k1,k2,k3,k4,_⟩:=pF (fun b hb=>(hB.keep b hb).2) (k:=k ++ [0]) (fun s b hb=>(hB.aside (k:=k ++ [0]) (fun q=>by simp [xP]) s b hb).2) hq (by simpa [inB] using hqb) hqn (zZ (i:=0) (m:=a.size) hc (by simp [Ty.size])) (zZ (i:=0) (m:=a.size) hcc (by simp [Ty.size])) h1
   exact ⟨Lq,cq,by simpa [uH,wA] using k1,by simpa [uH,wA] using k2,k3,k4⟩
  case snd.pair.fst=>
   rename_i a b
   have hl:=zU hv
   have h1:=(vI hv).2
   rw [nK (by simpa [Ty.size] using hl)] at h1
   obtain ⟨Lq,cq,k1,k2,k3,k4,_⟩:=pF (fun b hb=>(hB.keep b hb).2) (k:=k ++ [1]) (fun s b hb=>(hB.aside (k:=k ++ [1]) (fun q=>by simp [xP]) s b hb).2) hq (by simpa [inB] using hqb) hqn (zZ (i:=a.size) (m:=b.size) hc (by simp [Ty.size])) (zZ (i:=a.size) (m:=b.size) hcc (by simp [Ty.size])) h1
   exact ⟨Lq,cq,by simpa [uH,wA] using k1,by simpa [uH,wA] using k2,k3,k4⟩
  case der.ptr.der=>
   rename_i t
   have hne:=nF hg (by rw [hgb];simp)
   rcases qI hne with hf | ⟨e,hf⟩
   ·have:=iZ (p:=p) (by rw [oY,hf];rfl) hg
    rw [hgb] at this;cases this
   ·have hv0:=hv
    simp only [zP] at hv0
    replace hv0:=hv0.2
    rw [hf] at hv0
    obtain ⟨b,cs,rfl,hk,hob,hz,hv1⟩:=hv0
    have hbb:b ≠ b₀:=fun e'=>by
     have:=hB.own _ (e' ▸ hk)
     simp [xP] at this
    simp only [Ty.size] at hc hcc
    simp only [uH,wA,hc] at hw
    have hc':=zM (o:=0) (n:=t.size) hob.blk (by omega)
    have hcc':=zM (w:=w') (o:=0) (n:=t.size) (hob.same (hB.chg.other b hbb)).blk (by omega)
    have:win cs.toList 0 t.size = cs.toList:=by rw [← hz,← Array.length_toList];exact bH _
    rw [this] at hc' hcc'
    rw [oY,hf] at hg hq
    obtain ⟨Lq,cq,k1,k2,k3,k4⟩:=AL5 (k:=k ++ [0]) hq hqn (by simpa [inB] using hqb) hg hgb (by simpa [inB] using hb) hc' hcc' hv1 hw hL ho (by simpa [xP] using hB)
    exact ⟨Lq,cq,by simp only [uH,wA,hc];exact k1,by simp only [uH,wA,hcc];exact k2,k3,k4⟩
  case idx.arr.idx=>
   rename_i i n t j
   simp only [inB] at hqb hb
   have hne:=nF hg (by rw [hgb];simp)
   obtain ⟨hx,hcl,hel⟩:=iI hne hv
   have hlt:(i + 1) * t.size ≤ n * t.size:=Nat.mul_le_mul_right _ hqb.1
   rw [Nat.add_mul] at hlt
   have hc1:=zZ (i:=i * t.size) (m:=t.size) hc (by simp only [Ty.size];omega)
   have hc2:=zZ (i:=i * t.size) (m:=t.size) hcc (by simp only [Ty.size];omega)
   have hvi:=hel i _ (qM (z:=t.dflt) (by omega))
   by_cases hij:i = j
   ·subst hij
    simp only [uH,wA,hb.1,if_true] at hw
    obtain ⟨Lq,cq,k1,k2,k3,k4⟩:=AL5 (k:=k ++ [i]) hq hqn hqb.2 hg hgb hb.2 hc1 hc2 hvi hw hL ho (by simpa [xP] using hB)
    exact ⟨Lq,cq,by simp only [uH,wA,hqb.1,if_true];exact k1,by simp only [uH,wA,hqb.1,if_true];exact k2,k3,k4⟩
   ·obtain ⟨Lq,cq,k1,k2,k3,k4,_⟩:=pF (fun b hb=>(hB.keep b hb).2) (k:=k ++ [i]) (fun s b hb=>(hB.aside (k:=k ++ [i]) (fun q=>by simp [xP,hij]) s b hb).2) hq hqb.2 hqn hc1 hc2 hvi
    exact ⟨Lq,cq,by simp only [uH,wA,hqb.1,if_true];exact k1,by simp only [uH,wA,hqb.1,if_true];exact k2,k3,k4⟩
  case elm.sl.elm=>
   rename_i i t j
   simp only [inB] at hqb hb
   have hne:=nF hg (by rw [hgb];simp)
   rcases qI hne with hf | ⟨e,hf⟩
   ·have:=iZ (p:=p) (by rw [oY,hf];rfl) hg
    rw [hgb] at this;cases this
   ·have hv0:=hv
    simp only [zP] at hv0
    replace hv0:=hv0.2
    rw [hf] at hv0
    obtain ⟨ad,cap',rfl,hlc,hv0⟩:=hv0
    rcases hv0 with hv0 | ⟨b,oo,cs,rfl,hk,hob,hz,hv1⟩
    ·have:=hqb.1;omega
    ·have hbb:b ≠ b₀:=fun e'=>by
      have:=hB.own _ (e' ▸ hk)
      simp [xP] at this
     simp only [Ty.size] at hc hcc
     simp only [uH,wA,hc,hb.1,if_true] at hw
     rw [oY,hf] at hg hq
     have hlt:(i + 1) * t.size ≤ cap' * t.size:=Nat.mul_le_mul_right _ (by have:=hqb.1;omega)
     rw [Nat.add_mul] at hlt
     have hc1:=zM (o:=oo + i * t.size) (n:=t.size) hob.blk (by omega)
     have hc2:=zM (w:=w') (o:=oo + i * t.size) (n:=t.size) (hob.same (hB.chg.other b hbb)).blk (by omega)
     have hvi:=hv1 i _ (qM (z:=t.dflt) hqb.1)
     by_cases hij:i = j
     ·subst hij
      obtain ⟨Lq,cq,k1,k2,k3,k4⟩:=AL5 (k:=k ++ [i]) hq hqn hqb.2 hg hgb hb.2 hc1 hc2 hvi hw hL ho (by simpa [xP] using hB)
      exact ⟨Lq,cq,by simp only [uH,wA,hc,hqb.1,if_true];exact k1,by simp only [uH,wA,hcc,hqb.1,if_true];exact k2,k3,k4⟩
     ·obtain ⟨Lq,cq,k1,k2,k3,k4,_⟩:=pF (fun b hb=>(hB.keep b hb).2) (k:=k ++ [i]) (fun s b hb=>(hB.aside (k:=k ++ [i]) (fun q=>by simp [xP,hij]) s b hb).2) hq hqb.2 hqn hc1 hc2 hvi
      exact ⟨Lq,cq,by simp only [uH,wA,hc,hqb.1,if_true];exact k1,by simp only [uH,wA,hcc,hqb.1,if_true];exact k2,k3,k4⟩
end
end Go.Rf

end
section
namespace Go.Rf
set_option linter.unusedSectionVars false
variable [T:Laid]
section
variable {P:Program} {S:Nat → Prop} {β:Key → Option Nat} {H:Nat → Option (List Value)} {w w':World} {E:Env}
def A5K (P:Program) (w:World) (t':TypeId) (size:Nat) (z:Array Value) (vy:Value) (m:Nat) (cy:List Value):Prop:=
 (∃ u,P.underlying t' = some u ∧ (∀ k,u ≠ .int k) ∧ (∀ w',(Builtin.lenOf vy).run P w' = .ok m w') ∧ ∀ w',w'.heap = w.heap → (Builtin.firstCells size m vy).run P w' = .ok cy.toArray w') ∨
 (P.underlying t' = some (.int .i64) ∧ vy = .int .i64 m ∧ m ≤ 1099511627776 ∧ cy = (fF z (m * size)).toList)
theorem jQ {z:Array Value} {n:Nat}:Builtin.zeroCells z n = fF z (n * z.size):=rfl
theorem A0a {b m:Nat} (hb:b ≤ 128) (hm:m ≤ 1099511627776):¬ ((m:Int) * (b:Int) > 2 ^ 48):=by
 have:m * b ≤ 1099511627776 * 128:=Nat.mul_le_mul hm hb
 rw [← Int.natCast_mul]
 omega
theorem fY {t t' ty e:TypeId} {τ:Ty} {z:Value} {vy:Value} {m len cap:Nat} {cy:List Value} {base:Option Addr} (h:SlOK E t e τ z) (ha:A5K E.P w t' τ.size z.cells vy m cy) (hroom:len + m ≤ cap)
  (hst:∀ a,base = some a → (storeCells (a.add (len * τ.size)) cy 0).run E.P w = .ok () w') (hno:base = none → w' = w):
  (Builtin.append_ #[t,t'] ty #[.slice base len cap,vy]).run E.P w = .ok (.slice base (len + m) cap) w':=by
 obtain ⟨i,hi,hb⟩:=h.bytes
 have hsz:(sizeOf e).run E.P w = .ok τ.size w:=tT h.elem
 rcases ha with ⟨u,hu,hni,hl,hf⟩ | ⟨hu,rfl,hm,rfl⟩
 ·skip
  have hf':=hf w rfl
  cases base with
  | none=>
   have:=hno rfl
   subst this
   simp [Builtin.append_,zC h.und,zC hu,hsz,hl,hroom,hf']
  | some a=>
   have:=hst a rfl
   simp [Builtin.append_,zC h.und,zC hu,hsz,hl,hroom,hf',this]
 ·have hw:IntKind.i64.wrap (m:Int) = m:=AN0 (by omega) (by omega)
  have hmul:=A0a hb hm
  have hzs:=h.size
  have e0:fF z.cells 0 = #[]:=by simp [fF]
  have hn0:¬ ((m:Int) < 0):=by omega
  have hn1:¬ (281474976710656 < (m:Int) * (i.bytes:Int)):=by omega
  cases base with
  | none=>
   have:=hno rfl
   subst this
   by_cases h0:m * τ.size = 0
   ·simp [Builtin.append_,zC h.und,zC hu,hsz,hroom,asInt,asIntOf,hw,uN hi,hn0,hn1,h0]
   ·simp [Builtin.append_,zC h.und,zC hu,hsz,hroom,asInt,asIntOf,hw,uN hi,hn0,hn1,h0,h.zero]
  | some a=>
   have hsa:=hst a rfl
   by_cases h0:m * τ.size = 0
   ·rw [h0,e0] at hsa
    simp only [Array.toList_empty] at hsa
    simp [Builtin.append_,zC h.und,zC hu,hsz,hroom,asInt,asIntOf,hw,uN hi,hn0,hn1,h0,hsa]
   ·have hzc:Builtin.zeroCells z.cells m = fF z.cells (m * τ.size):=by rw [jQ,hzs]
    simp [Builtin.append_,zC h.und,zC hu,hsz,hroom,asInt,asIntOf,hw,uN hi,hn0,hn1,h0,h.zero,hzc,hsa]
theorem AQ4 {t t' ty e:TypeId} {τ:Ty} {z:Value} {vy:Value} {m len cap:Nat} {cy co:List Value} {base:Option Addr} (h:SlOK E t e τ z) (ha:A5K E.P w t' τ.size z.cells vy m cy) (hroom:¬ len + m ≤ cap) (hlen:len + m ≤ 1099511627776)
  (hold:∀ w',w'.heap = w.heap → (Builtin.firstCells τ.size len (.slice base len cap)).run E.P w' = .ok co.toArray w'):
  ∃ nc w',len + m ≤ nc ∧ (Builtin.append_ #[t,t'] ty #[.slice base len cap,vy]).run E.P w = .ok (.slice (some ⟨w.heap.size,0,none⟩) (len + m) nc) w' ∧ Pushed w w' (.cells (co.toArray ++ (cy.toArray ++ fF z.cells ((nc - (len + m)) * τ.size))) e):=by
 obtain ⟨i,hi,hb⟩:=h.bytes
 have hsz:∀ w,(sizeOf e).run E.P w = .ok τ.size w:=fun w=>tT h.elem
 have h63:¬ (9223372036854775807 < ((len:Int) + (m:Int))):=by omega
 have hfit:=growslice_fits (need:=len + m) (old:=cap) (bytes:=i.bytes) (by omega) (by
  have:(len + m) * i.bytes ≤ 1099511627776 * 128:=Nat.mul_le_mul hlen hb
  omega)
 have h48:¬ (281474976710656 < Builtin.nextslicecap (len + m) cap * i.bytes):=by omega
 refine ⟨grownCap w (len + m) cap e,w.drew.alloc (.cells (co.toArray ++ (cy.toArray ++ fF z.cells ((grownCap w (len + m) cap e - (len + m)) * τ.size))) e),grownCap_ge _ _ _ _,?_,rfl,rfl,rfl,rfl⟩
 have hold':=hold w.drew rfl
 have hzs:=h.size
 rcases ha with ⟨u,hu,hni,hl,hf⟩ | ⟨hu,rfl,hm,rfl⟩
 ·skip
  have hf':=hf w.drew rfl
  simp [Builtin.append_,zC h.und,zC hu,hsz,hl,hroom,uN hi,h63,h48,Question.forced,hold',hf',h.zero,newRow,grownCap,jQ,hzs]
 ·have hw:IntKind.i64.wrap (m:Int) = m:=AN0 (by omega) (by omega)
  have hmul:=A0a hb hm
  have hn0:¬ ((m:Int) < 0):=by omega
  have hn1:¬ (281474976710656 < (m:Int) * (i.bytes:Int)):=by omega
  have e0:fF z.cells 0 = #[]:=by simp [fF]
  by_cases h0:m * τ.size = 0
  ·simp [Builtin.append_,zC h.und,zC hu,hsz,hroom,asInt,asIntOf,hw,uN hi,h63,h48,hn0,hn1,h0,e0,Question.forced,hold',h.zero,newRow,grownCap,jQ,hzs]
  ·simp [Builtin.append_,zC h.und,zC hu,hsz,hroom,asInt,asIntOf,hw,uN hi,h63,h48,hn0,hn1,h0,Question.forced,hold',h.zero,newRow,grownCap,jQ,hzs]
end
end Go.Rf

end
section
namespace Go.Rf
set_option linter.unusedSectionVars false
variable [T:Laid]
section
variable {P:Program} {H:Nat → Option (List Value)} {N:Nat} {g g' σ:yB} {V V':Nat → Option Value} {w w':World} {S S':Nat → Prop} {β β':Key → Option Nat} {a:Act} {o:Oper}
variable {E:Env} {gv:yB} {us:List Up}
structure Elems (S:Nat → Prop) (w:World) (τ:Ty) (ys:List τ.D) (cy:List Value):Prop where
 len:cy.length = ys.length * τ.size
 one:∀ v ∈ cy,v.oneCell' = true
 get:∀ j v,nth ys j = some v → Rd S w τ v (win cy (j * τ.size) τ.size)
theorem Elems.of {τ:Ty} {ys:List τ.D} {cy:List Value} (h1:cy.length = ys.length * τ.size) (h2:∀ j v,nth ys j = some v → Rd S w τ v (win cy (j * τ.size) τ.size)):Elems S w τ ys cy:=by
 refine ⟨h1,fun v hv=>?_,h2⟩
 obtain ⟨i,hi,hiv⟩:=A92 hv h1
 have ht:0 < τ.size:=by
  rcases Nat.eq_zero_or_pos τ.size with e | e
  ·rw [e] at hi;omega
  ·exact e
 have hq:i / τ.size < ys.length:=by rw [Nat.div_lt_iff_lt_mul ht];exact hi
 refine A3M (h2 (i / τ.size) _ (qM (z:=τ.dflt) hq)) v ?_
 have hg:(win cy (i / τ.size * τ.size) τ.size)[i % τ.size]? = some v:=by
  rw [tR,if_pos (Nat.mod_lt _ ht)]
  have:=Nat.div_add_mod i τ.size
  rw [Nat.mul_comm] at this
  rw [this];exact hiv
 exact List.mem_of_getElem? hg
theorem Elems.nil {τ:Ty}:Elems S w τ ([]:List τ.D) []:=⟨by simp,by simp,fun j v h=>by simp [nth] at h⟩
theorem AH6 {n:Nat} {L:Loc} (h:w'.heap = w.heap):zF w' n L = zF w n L:=by cases L <;> simp [zF,h]
theorem A5n {τ:Ty} {ys:List τ.D} {c:List Value} (h:Rd S w (.sl τ) ys c):∃ ad cap cy,c = [.slice ad ys.length cap] ∧ Elems S w τ ys cy ∧
  ∀ w',w'.heap = w.heap → (Builtin.firstCells τ.size ys.length (.slice ad ys.length cap)).run P w' = .ok cy.toArray w':=by
 simp only [Rd] at h
 obtain ⟨ad,cap,rfl,hl,h⟩:=h
 rcases h with h | ⟨b,oo,cs,rfl,hS,hB,hz,h⟩
 ·subst h
  refine ⟨ad,cap,[],rfl,.nil,fun w' _=>?_⟩
  cases ad with
  | none=>simp [Builtin.firstCells]
  | some b=>simp [Builtin.firstCells,bE]
 ·refine ⟨_,cap,win cs.toList oo (List.length ys * τ.size),rfl,Elems.of (mN (by simpa using hz)) (fun j v hv=>?_),fun w' hw'=>?_⟩
  ·have hj:j < List.length ys:=by unfold nth at hv;exact (List.getElem?_eq_some_iff.1 hv).1
   have hlt:(j + 1) * τ.size ≤ List.length ys * τ.size:=Nat.mul_le_mul_right _ hj
   rw [Nat.add_mul,Nat.one_mul] at hlt
   rw [pI (by omega)]
   exact h j v hv
  ·have hc:=zM (o:=oo) (n:=List.length ys * τ.size) hB hz
   rw [← AH6 hw'] at hc
   simp only [Builtin.firstCells]
   exact lW hc
theorem BH6 {n:Int} (h:zA n = true):0 ≤ n:=by simpa [zA] using h
theorem A2a {s:List UInt8} {t':TypeId} {z:Array Value} (ht:P.underlying t' = some .string):
  Elems S w (.int .u8) (List.map (fun b:UInt8=>(b.toNat:Int)) s) (List.map (fun b:UInt8=>Value.int .u8 (b.toNat:Int)) s) ∧
  A5K P w t' (Ty.int .u8).size z (.string ⟨⟨s⟩⟩) (List.map (fun b:UInt8=>(b.toNat:Int)) s).length (List.map (fun b:UInt8=>Value.int .u8 (b.toNat:Int)) s):=by
 refine ⟨Elems.of ?_ (fun j v hj=>?_),.inl ⟨_,ht,by simp,fun w'=>?_,fun w' _=>?_⟩⟩
 ·show _ = (List.map (fun b:UInt8=>(b.toNat:Int)) s).length * 1
  rw [Nat.mul_one,List.length_map,List.length_map]
 ·obtain ⟨b,hb1,hb2⟩:=A8v hj
  subst hb2
  simp only [Rd,Ty.size,Nat.mul_one]
  apply List.ext_getElem?
  intro i
  rw [tR]
  cases i with
  | zero=>rw [if_pos (by decide),Nat.add_zero,List.getElem?_map,hb1];rfl
  | succ i=>rw [if_neg (by omega)];simp
 ·rw [List.length_map];rfl
 ·rw [List.length_map]
  have h2:(⟨⟨s⟩⟩:ByteArray).extract 0 s.length = ⟨⟨s⟩⟩:=by rw [Ay4];simp
  simp only [Builtin.firstCells]
  rw [h2]
  simp
theorem A29 {τ:Ty} {t':TypeId} {y:Operand} {ys:List τ.D} {z:Value} (h:Rel H N g V w S β) (hs:Sub gv g) (hz:nL τ z.cells.toList = true) (hzs:z.cells.size = τ.size)
  (ha:A3u gv τ (E.ty t') y = some (ys,us)):
  ∃ S1 β1 cy vy,Rel H N (g.ups us) V w S1 β1 ∧ Step w S β w S1 β1 ∧ Sub (gv.ups us) (g.ups us) ∧ (∀ u ∈ us,(g u.slot).sv ≠ .dead) ∧ Elems S1 w τ ys cy ∧ evl V y = some vy ∧ A5K E.P w t' τ.size z.cells vy ys.length cy:=by
 unfold A3u at ha
 split at ha
 ·rename_i ht
  split at ha
  ·rename_i n hn
   split at ha
   ·rename_i hw
    simp only [Bool.cond_eq_ite] at ha
    split at ha
    ·rename_i hcond
     simp only [Bool.and_eq_true] at hcond
     simp only [Option.some.injEq,Prod.mk.injEq] at ha
     obtain ⟨rfl,rfl⟩:=ha
     have hn0:=BH6 hcond.1
     have hv:=dV h (hs.sv hn (by simp)) gY
     have hnn:((Int.toNat n:Nat):Int) = n:=Int.toNat_of_nonneg hn0
     refine ⟨S,β,(fF z.cells (Int.toNat n * τ.size)).toList,_,h,.refl,hs,by simp,Elems.of (by simp [eV]) (fun j v hj=>?_),hv,.inr ⟨A5u ht,?_,?_,?_⟩⟩
     ·have hj':(List.replicate (Int.toNat n) τ.dflt)[j]? = some v:=hj
      rw [List.getElem?_replicate] at hj'
      split at hj'
      ·rename_i hjn
       simp only [Option.some.injEq] at hj';subst hj'
       have:=A3B (S:=S) (β:=fun _=>none) (H:=H) (w:=w) (k:=[]) (mv:=false) hz hzs hjn
       exact vW (f:=Fl.nw false τ) hw (fun _ h=>h) (fun _ _ hb=>by cases hb) this
      ·cases hj'
     ·rw [List.length_replicate,hnn]
     ·rw [List.length_replicate];exact AY8 hcond.2
     ·rw [List.length_replicate]
    ·cases ha
   ·cases ha
  ·cases ha
 ·rename_i τ' ht
  obtain ⟨e',he',h7⟩:=AY2 ht
  split at ha
  ·rename_i hy
   split at ha
   ·simp only [Option.some.injEq,Prod.mk.injEq] at ha
    obtain ⟨rfl,rfl⟩:=ha
    have hv:evl V y = some (.slice none 0 0):=by
     rcases aB (hs.sv hy (by simp)) with ⟨s,rfl,h'⟩ | rfl
     ·have:=h.slots s
      rw [h'] at this;exact this.elim
     ·rfl
    exact ⟨S,β,[],_,h,.refl,hs,by simp,.nil,hv,.inl ⟨_,he',by simp,fun w'=>by simp [Builtin.lenOf],fun w' _=>by simp [Builtin.firstCells]⟩⟩
   ·cases ha
  ·split at ha
   ·rename_i τ'' ys0 f0 hd
    simp only [Option.bind_eq_some_iff,Option.map_eq_some_iff,Prod.mk.injEq] at ha
    obtain ⟨ys1,hc,us1,hp,rfl,rfl⟩:=ha
    obtain ⟨het,hex⟩:=vV hc
    cases het
    have hex:ys = ys0:=hex
    subst hex
    obtain ⟨hp',hsub,halive⟩:=cO hs hp
    obtain ⟨S1,β1,c,k1,k2,k3,k4⟩:=AA6 h hp' (tQ hs hd)
    obtain ⟨ad,cap,cy,rfl,q1,q2⟩:=A5n (P:=E.P) k4
    exact ⟨S1,β1,cy,_,k1,k2,hsub,halive,q1,k3,.inl ⟨_,he',by simp,fun w'=>by simp [yA,Ty.agg,Builtin.lenOf],fun w' hw'=>q2 w' hw'⟩⟩
   ·cases ha
 ·rename_i ht
  split at ha
  ·rename_i s hy
   obtain ⟨ys1,hc,hpair⟩:=Option.map_eq_some_iff.1 ha
   simp only [Prod.mk.injEq] at hpair
   obtain ⟨rfl,rfl⟩:=hpair
   obtain ⟨het,hex⟩:=vV hc
   cases het
   have hex:ys1 = List.map (fun b:UInt8=>(b.toNat:Int)) s:=hex
   subst hex
   have hv:=A5l h (hs.sv hy (by simp)) gY
   exact ⟨S,β,_,_,h,.refl,hs,by simp,(A2a (P:=E.P) (z:=z.cells) (AX5 ht)).1,hv,(A2a (S:=S) (w:=w) (AX5 ht)).2⟩
  ·cases ha
 ·cases ha
end
end Go.Rf

end
section
namespace Go.Rf
set_option linter.unusedSectionVars false
variable [T:Laid]
section
variable {P:Program} {H:Nat → Option (List Value)} {N:Nat} {g g' σ:yB} {V V':Nat → Option Value} {w w':World} {S S':Nat → Prop} {β β':Key → Option Nat} {a:Act} {o:Oper}
variable {E:Env} {gv:yB} {us:List Up}
theorem Rel.touch (h:Rel H N g V w S β) {r:Nat} {e:Dat} (he:(g r).sv = .dat e):Rel H N (g.up (.pub r (.dat e))) V w S β:=by
 obtain ⟨t,x,f⟩:=e
 obtain ⟨c,hv,hV⟩:=h.dat he
 exact h.pub he h.sane (fun b hb=>⟨hb,rfl⟩) (fun j s b _ _ hb=>⟨hb,rfl⟩) (fun p d L cr c h1 h2 _ _ _ h4 h5=>⟨⟨d.f,h1,h2⟩,h4,h5⟩) ⟨c,hv,hV⟩
theorem aE {α:Type} {xs ys:List α} {i:Nat} {y:α} (h:nth (xs ++ ys) i = some y):(i < xs.length ∧ nth xs i = some y) ∨ (xs.length ≤ i ∧ nth ys (i - xs.length) = some y):=by
 unfold nth at *
 by_cases hi:i < xs.length
 ·rw [List.getElem?_append_left hi] at h;exact .inl ⟨hi,h⟩
 ·rw [List.getElem?_append_right (by omega)] at h;exact .inr ⟨by omega,h⟩
theorem AR6 {t t' ty e:TypeId} {τ:Ty} {z:Value} {vy:Value} {xs ys:List τ.D} {cy:List Value} {ad:Option Addr} {cap:Nat} {key:Key} (hok:SlOK E t e τ z)
  (hb:zP S β H w key (.sl τ) (.own .sh) xs [.slice ad xs.length cap]) (hy:Elems S w τ ys cy) (ha:A5K E.P w t' τ.size z.cells vy ys.length cy) (hlen:xs.length + ys.length ≤ 1099511627776) (hsep:∀ b,β key = some b → ¬ S b) (hlt:∀ b,S b → b < w.heap.size):
  (∃ w',(Builtin.append_ #[t,t'] ty #[.slice ad xs.length cap,vy]).run E.P w = .ok (.slice ad (xs.length + ys.length) cap) w' ∧
   ((w' = w ∧ cap = 0 ∧ xs = [] ∧ ys = []) ∨ ∃ b₀ o,ad = some ⟨b₀,o,none⟩ ∧ β key = some b₀ ∧ Chg w w' b₀ (o + xs.length * τ.size) cy ∧ w'.heap.size = w.heap.size ∧ zP S β H w' key (.sl τ) (.own .sh) (xs ++ ys:List τ.D) [.slice ad (xs.length + ys.length) cap])) ∨
  (∃ w' nc ob,(Builtin.append_ #[t,t'] ty #[.slice ad xs.length cap,vy]).run E.P w = .ok (.slice (some ⟨w.heap.size,0,none⟩) (xs.length + ys.length) nc) w' ∧ Pushed w w' ob ∧
   ∀ key' β',β' key' = some w.heap.size → zP S β' H w' key' (.sl τ) (.own .sh) (xs ++ ys:List τ.D) [.slice (some ⟨w.heap.size,0,none⟩) (xs.length + ys.length) nc]):=by
 simp only [zP,Fl.base] at hb
 obtain ⟨_,ad',cap',e1,hlc,hb⟩:=hb
 simp only [List.cons.injEq,Value.slice.injEq,and_true] at e1
 obtain ⟨rfl,_,rfl⟩:=e1
 by_cases hroom:xs.length + ys.length ≤ cap
 ·left
  rcases hb with hb | ⟨b,oo,cs,rfl,hk,hob,hz,hel⟩
  ·have hx:xs = []:=List.length_eq_zero_iff.1 (by omega)
   have hyy:ys = []:=List.length_eq_zero_iff.1 (by omega)
   subst hx;subst hyy
   have hcy:cy = []:=List.length_eq_zero_iff.1 (by have:=hy.len;simpa using this)
   subst hcy
   exact ⟨w,fY hok ha hroom (fun a _=>by simp [storeCells]) (fun _=>rfl),.inl ⟨rfl,hb,rfl,rfl⟩⟩
  ·obtain ⟨el,fz,hbl,hf⟩:=hob
   have hle:oo + xs.length * τ.size + cy.length ≤ cs.size:=by
    rw [hy.len]
    have:xs.length * τ.size + ys.length * τ.size ≤ cap * τ.size:=by rw [← Nat.add_mul];exact Nat.mul_le_mul_right _ hroom
    omega
   obtain ⟨w',cs',k1,k2,k3,k4,k5,k6⟩:=mH (P:=E.P) (vs:=cy) (i:=0) (o:=oo + xs.length * τ.size) hbl (fun j hj=>⟨by omega,hf.1 _ (by omega)⟩) hy.one
   rw [Nat.add_zero] at k3
   have hchg:Chg w w' b (oo + xs.length * τ.size) cy:=⟨k4,⟨cs,el,fz,cs',hbl,k2,k3,hle⟩,k6⟩
   have hsz:cs'.size = cs.size:=by
    have:=congrArg List.length k3
    rw [iR (by simpa using hle)] at this
    simpa using this
   have hS:∀ b',S b' → S b' ∧ w'.heap[b']? = w.heap[b']?:=fun b' hb'=>⟨hb',k4 b' (fun e=>hsep b hk (e ▸ hb'))⟩
   refine ⟨w',fY hok ha hroom (fun a ha'=>?_) (fun h=>by cases h),.inr ⟨b,oo,rfl,hk,hchg,k5,?_⟩⟩
   ·simp only [Option.some.injEq] at ha';subst ha'
    rw [jD];exact k1
   ·simp only [zP,Fl.base]
    refine ⟨by simp [nQ,Fl.pins],_,cap,by rw [List.length_append],by rw [List.length_append];exact hroom,.inr ⟨b,oo,cs',rfl,hk,⟨el,fz,k2,by rw [hsz];exact hf⟩,by rw [hsz];exact hz,fun i y hi=>?_⟩⟩
    rw [yQ,k3]
    rcases aE hi with ⟨hlt',hi⟩ | ⟨hge,hi⟩
    ·have hlt2:(i + 1) * τ.size ≤ xs.length * τ.size:=Nat.mul_le_mul_right _ hlt'
     rw [Nat.add_mul,Nat.one_mul] at hlt2
     rw [uI (by simpa using hle) (.inl (by omega))]
     have:=hel i y hi
     rw [yQ] at this
     exact zR hS this
    ·have hj:i - xs.length < ys.length:=by unfold nth at hi;exact (List.getElem?_eq_some_iff.1 hi).1
     have hlt2:(i - xs.length + 1) * τ.size ≤ ys.length * τ.size:=Nat.mul_le_mul_right _ hj
     rw [Nat.add_mul,Nat.one_mul] at hlt2
     have e2:oo + i * τ.size = oo + xs.length * τ.size + (i - xs.length) * τ.size:=by
      have:i * τ.size = xs.length * τ.size + (i - xs.length) * τ.size:=by rw [← Nat.add_mul];congr 1;omega
      omega
     have e3:win (gT cs.toList (oo + xs.length * τ.size) cy) (oo + i * τ.size) τ.size = win cy ((i - xs.length) * τ.size) τ.size:=by
      rw [e2,← pI (n:=cy.length) (by rw [hy.len];omega),iA (by simpa using hle)]
     rw [e3]
     exact zR hS (hy.get _ y hi)
 ·right
  have hold:∃ co:List Value,co.length = xs.length * τ.size ∧ (∀ w',w'.heap = w.heap → (Builtin.firstCells τ.size xs.length (.slice ad xs.length cap)).run E.P w' = .ok co.toArray w') ∧ ∀ i y,nth xs i = some y → Rd S w τ y (win co (i * τ.size) τ.size):=by
   rcases hb with hb | ⟨b,oo,cs,rfl,hk,hob,hz,hel⟩
   ·have hx:xs = []:=List.length_eq_zero_iff.1 (by omega)
    subst hx
    refine ⟨[],by simp,fun w' _=>?_,fun i y h=>by simp [nth] at h⟩
    cases ad with
    | none=>simp [Builtin.firstCells]
    | some b=>simp [Builtin.firstCells,bE]
   ·have hle:oo + xs.length * τ.size ≤ cs.size:=by
     have:xs.length * τ.size ≤ cap * τ.size:=Nat.mul_le_mul_right _ hlc
     omega
    refine ⟨win cs.toList oo (xs.length * τ.size),mN (by simpa using hle),fun w' hw'=>?_,fun i y hi=>?_⟩
    ·have hc:=zM (o:=oo) (n:=xs.length * τ.size) hob.blk hle
     rw [← AH6 hw'] at hc
     simp only [Builtin.firstCells]
     exact lW hc
    ·have hj:i < xs.length:=by unfold nth at hi;exact (List.getElem?_eq_some_iff.1 hi).1
     have hlt':(i + 1) * τ.size ≤ xs.length * τ.size:=Nat.mul_le_mul_right _ hj
     rw [Nat.add_mul,Nat.one_mul] at hlt'
     rw [pI (by omega)]
     have:=hel i y hi
     rw [yQ] at this;exact this
  obtain ⟨co,hcl,hold,hel⟩:=hold
  obtain ⟨nc,w',hnc,hrun,hheap⟩:=AQ4 (ty:=ty) hok ha hroom hlen hold
  refine ⟨w',nc,_,hrun,hheap,fun key' β' hk'=>?_⟩
  have hS:∀ b',S b' → S b' ∧ w'.heap[b']? = w.heap[b']?:=fun b' hb'=>⟨hb',sU hheap (hlt b' hb')⟩
  simp only [zP,Fl.base]
  refine ⟨by simp [nQ,Fl.pins],_,nc,by rw [List.length_append],by rw [List.length_append];exact hnc,.inr ⟨w.heap.size,0,_,rfl,hk',AF7.new hheap (.inl rfl),?_,fun i y hi=>?_⟩⟩
  ·simp only [Array.size_append,List.size_toArray,eV,hcl,hy.len]
   have:nc * τ.size = xs.length * τ.size + ys.length * τ.size + (nc - (xs.length + ys.length)) * τ.size:=by
    rw [← Nat.add_mul,← Nat.add_mul];congr 1;omega
   omega
  ·rw [yQ,Nat.zero_add]
   simp only [Array.toList_append]
   have wl:∀ (A B:List Value) (p n:Nat),p + n ≤ A.length → win (A ++ B) p n = win A p n:=fun A B p n h=>by
    unfold win
    rw [List.drop_append_of_le_length (by omega),List.take_append_of_le_length (by simp;omega)]
   have wr:∀ (A B:List Value) (p n:Nat),win (A ++ B) (A.length + p) n = win B p n:=fun A B p n=>by
    unfold win;rw [List.drop_append,List.drop_eq_nil_of_le (by omega)];simp
   rcases aE hi with ⟨hlt',hi⟩ | ⟨hge,hi⟩
   ·have hlt2:(i + 1) * τ.size ≤ xs.length * τ.size:=Nat.mul_le_mul_right _ hlt'
    rw [Nat.add_mul,Nat.one_mul] at hlt2
    rw [wl _ _ _ _ (by omega)]
    exact zR hS (hel i y hi)
   ·have hj:i - xs.length < ys.length:=by unfold nth at hi;exact (List.getElem?_eq_some_iff.1 hi).1
    have hlt2:(i - xs.length + 1) * τ.size ≤ ys.length * τ.size:=Nat.mul_le_mul_right _ hj
    rw [Nat.add_mul,Nat.one_mul] at hlt2
    have e2:i * τ.size = co.length + (i - xs.length) * τ.size:=by
     rw [hcl,← Nat.add_mul];congr 1;omega
    rw [e2,wr,wl _ _ _ _ (by rw [hy.len];omega)]
    exact zR hS (hy.get _ y hi)
end
end Go.Rf

end
section
namespace Go.Rf
set_option linter.unusedSectionVars false
variable [T:Laid]
section
variable {P:Program} {H:Nat → Option (List Value)} {N:Nat} {g g' σ:yB} {V V':Nat → Option Value} {w w':World} {S S':Nat → Prop} {β β':Key → Option Nat} {a:Act} {o:Oper}
variable {E:Env} {gv:yB} {us:List Up}
theorem A3e {key:Key} {τ:Ty} {ys:List τ.D} {e:Fl} {c:List Value} (hw:e.whole = true) (h:zP S β H w key (.sl τ) (.own e) ys c):
  ∃ ad cap cy,c = [.slice ad ys.length cap] ∧ ys.length ≤ cap ∧ cy.length = ys.length * τ.size ∧ (∀ v ∈ cy,v.oneCell' = true) ∧
   (∀ w',w'.heap = w.heap → (Builtin.firstCells τ.size ys.length (.slice ad ys.length cap)).run P w' = .ok cy.toArray w') ∧
   (∀ i y,nth ys i = some y → zP S β H w (key ++ [i]) τ e y (win cy (i * τ.size) τ.size)) ∧
   ((cap = 0 ∧ ys = []) ∨ ∃ b o cs,ad = some ⟨b,o,none⟩ ∧ β key = some b ∧ AF7 (Bl0 τ) w b cs ∧ o + cap * τ.size ≤ cs.size ∧ cy = win cs.toList o (ys.length * τ.size)):=by
 simp only [zP,Fl.base] at h
 obtain ⟨_,ad,cap,rfl,hl,h⟩:=h
 rcases h with h | ⟨b,oo,cs,rfl,hk,hB,hz,h⟩
 ·have hy:ys = []:=List.length_eq_zero_iff.1 (by omega)
  subst hy
  refine ⟨ad,cap,[],rfl,hl,by simp,by simp,fun w' _=>?_,fun i y hi=>by simp [nth] at hi,.inl ⟨h,rfl⟩⟩
  cases ad with
  | none=>simp [Builtin.firstCells]
  | some b=>simp [Builtin.firstCells,bE]
 ·have hle:oo + ys.length * τ.size ≤ cs.size:=by
   have:ys.length * τ.size ≤ cap * τ.size:=Nat.mul_le_mul_right _ hl
   omega
  have hel:∀ i y,nth ys i = some y → zP S β H w (key ++ [i]) τ e y (win (win cs.toList oo (ys.length * τ.size)) (i * τ.size) τ.size):=fun i y hi=>by
   have hj:i < List.length ys:=by unfold nth at hi;exact (List.getElem?_eq_some_iff.1 hi).1
   have hlt:(i + 1) * τ.size ≤ List.length ys * τ.size:=Nat.mul_le_mul_right _ hj
   rw [Nat.add_mul,Nat.one_mul] at hlt
   rw [pI (by omega)]
   exact h i y hi
  have hlen:(win cs.toList oo (ys.length * τ.size)).length = ys.length * τ.size:=mN (by simpa using hle)
  refine ⟨_,cap,win cs.toList oo (ys.length * τ.size),rfl,hl,hlen,(Elems.of (S:=A3b S β) (w:=w) hlen fun j v hv=>dC hw (hel j v hv)).one,fun w' hw'=>?_,hel,.inr ⟨b,oo,cs,rfl,hk,hB,hz,rfl⟩⟩
  have hc:=zM (o:=oo) (n:=ys.length * τ.size) hB.blk hle
  rw [← AH6 hw'] at hc
  simp only [Builtin.firstCells]
  exact lW hc
def bF (β:Key → Option Nat) (n m d b:Nat):Key → Option Nat
 | []=>β []
 | [i]=>if i = d then some b else if i = n ∨ i = n + 1 then none else β [i]
 | i :: j :: s=>if i = d then (if j < m then β (n :: j :: s) else β ((n + 1) :: (j - m) :: s)) else if i = n ∨ i = n + 1 then none else β (i :: j :: s)
theorem eZ {n m d b b':Nat} {k:Key} (h:bF β n m d b k = some b'):
  (k = [d] ∧ b' = b) ∨ (∃ j s,j < m ∧ k = d :: j :: s ∧ β (n :: j :: s) = some b') ∨ (∃ j s,k = d :: (m + j) :: s ∧ β ((n + 1) :: j :: s) = some b') ∨
   ((∀ s,k ≠ d :: s) ∧ (∀ s,k ≠ n :: s) ∧ (∀ s,k ≠ (n + 1) :: s) ∧ β k = some b'):=by
 match k,h with
 | [],hh=>exact .inr (.inr (.inr ⟨by simp,by simp,by simp,hh⟩))
 | [i],hh=>
  simp only [bF] at hh
  split at hh
  ·rename_i e;subst e;exact .inl ⟨rfl,(Option.some.inj hh).symm⟩
  ·rename_i h1
   split at hh
   ·cases hh
   ·rename_i h2
    refine .inr (.inr (.inr ⟨?_,?_,?_,hh⟩)) <;> (intro s e;simp only [List.cons.injEq] at e;omega)
 | i :: j :: s,hh=>
  simp only [bF] at hh
  split at hh
  ·rename_i e;subst e
   split at hh
   ·rename_i hj;exact .inr (.inl ⟨j,s,hj,rfl,hh⟩)
   ·rename_i hj;exact .inr (.inr (.inl ⟨j - m,s,by rw [show m + (j - m) = j by omega],hh⟩))
  ·rename_i h1
   split at hh
   ·cases hh
   ·rename_i h2
    refine .inr (.inr (.inr ⟨?_,?_,?_,hh⟩)) <;> (intro s e;simp only [List.cons.injEq] at e;omega)
theorem Sane.join {n m d b:Nat} (h:Sane w S β) (hsz:w.heap.size ≤ w'.heap.size) (hb:∀ k,β k = some b → k = [n]) (hS:¬ S b) (hlt:b < w'.heap.size) (hSS:∀ b,S b → w'.heap[b]? = w.heap[b]?):Sane w' S (bF β n m d b) where
 inj k k' b' h1 h2:=by
  rcases eZ h1 with ⟨rfl,rfl⟩ | ⟨j,s,hj,rfl,q1⟩ | ⟨j,s,rfl,q1⟩ | ⟨a1,a2,a3,q1⟩ <;>
   rcases eZ h2 with ⟨rfl,e2⟩ | ⟨j',s',hj',rfl,q2⟩ | ⟨j',s',rfl,q2⟩ | ⟨c1,c2,c3,q2⟩
  ·rfl
  ·have:=hb _ q2;simp at this
  ·have:=hb _ q2;simp at this
  ·exact absurd (hb _ q2) (c2 _)
  ·subst e2;have:=hb _ q1;simp at this
  ·have:=h.inj _ _ _ q1 q2;simp only [List.cons.injEq] at this ⊢;exact ⟨trivial,this.2⟩
  ·have:=h.inj _ _ _ q1 q2;simp only [List.cons.injEq] at this;omega
  ·exact absurd (h.inj _ _ _ q2 q1) (c2 _)
  ·subst e2;have:=hb _ q1;simp at this
  ·have:=h.inj _ _ _ q1 q2;simp only [List.cons.injEq] at this;omega
  ·have:=h.inj _ _ _ q1 q2;simp only [List.cons.injEq] at this ⊢;exact ⟨trivial,by omega,this.2.2⟩
  ·exact absurd (h.inj _ _ _ q2 q1) (c3 _)
  ·subst e2;exact absurd (hb _ q1) (a2 _)
  ·exact absurd (h.inj _ _ _ q1 q2) (a2 _)
  ·exact absurd (h.inj _ _ _ q1 q2) (a3 _)
  ·exact h.inj _ _ _ q1 q2
 sep k b' h1:=by
  rcases eZ h1 with ⟨rfl,rfl⟩ | ⟨j,s,hj,rfl,q1⟩ | ⟨j,s,rfl,q1⟩ | ⟨a1,a2,a3,q1⟩
  ·exact hS
  ·exact h.sep _ _ q1
  ·exact h.sep _ _ q1
  ·exact h.sep _ _ q1
 live k b' h1:=by
  rcases eZ h1 with ⟨rfl,rfl⟩ | ⟨j,s,hj,rfl,q1⟩ | ⟨j,s,rfl,q1⟩ | ⟨a1,a2,a3,q1⟩
  ·exact hlt
  ·exact Nat.lt_of_lt_of_le (h.live _ _ q1) hsz
  ·exact Nat.lt_of_lt_of_le (h.live _ _ q1) hsz
  ·exact Nat.lt_of_lt_of_le (h.live _ _ q1) hsz
 liveS b' hb':=Nat.lt_of_lt_of_le (h.liveS b' hb') hsz
 tab:=h.tabs fun b hb=>⟨hb,hSS b hb⟩
theorem Step.join {n m d b:Nat} (hb:(∃ k,β k = some b) ∨ w.heap.size ≤ b) (hsz:w.heap.size ≤ w'.heap.size) (hold:∀ b',b' < w.heap.size → (∀ k,β k ≠ some b') → w'.heap[b']? = w.heap[b']?) (hout:SameOut w w'):Step w S β w' S (bF β n m d b) where
 size:=hsz
 old:=hold
 new k b' h1:=by
  rcases eZ h1 with ⟨rfl,rfl⟩ | ⟨j,s,hj,rfl,q1⟩ | ⟨j,s,rfl,q1⟩ | ⟨a1,a2,a3,q1⟩
  ·exact hb
  ·exact .inl ⟨_,q1⟩
  ·exact .inl ⟨_,q1⟩
  ·exact .inl ⟨_,q1⟩
 keepS _ h:=h
 newS _ h:=.inl h
 out:=hout
theorem A6g (A B:List Value) (p n:Nat) (h:p + n ≤ A.length):win (A ++ B) p n = win A p n:=by
 unfold win
 rw [List.drop_append_of_le_length (by omega),List.take_append_of_le_length (by simp;omega)]
theorem BE6 (A B:List Value) (p n:Nat):win (A ++ B) (A.length + p) n = win B p n:=by
 unfold win;rw [List.drop_append,List.drop_eq_nil_of_le (by omega)];simp
theorem A76 {k:Key} {τ:Ty} {ad:Option Addr} {e:Fl}:zP S β H w k (.sl τ) (.own e) ([]:List τ.D) [.slice ad 0 0]:=by
 simp only [zP,Fl.base]
 exact ⟨by simp [nQ,Fl.pins],ad,0,rfl,by simp,.inl rfl⟩
theorem A9J {t t' ty e0:TypeId} {τ:Ty} {z:Value} {vy:Value} {xs ys:List τ.D} {cx cy:List Value} {e:Fl} {n d:Nat} (hw:e.whole = true) (hok:SlOK E t e0 τ z) (hs:Sane w S β)
  (hx:zP S β H w [n] (.sl τ) (.own e) xs cx) (hyl:cy.length = ys.length * τ.size) (hy1:∀ v ∈ cy,v.oneCell' = true) (hye:∀ i y,nth ys i = some y → zP S β H w ([n + 1] ++ [i]) τ e y (win cy (i * τ.size) τ.size))
  (ha:A5K E.P w t' τ.size z.cells vy ys.length cy) (hlen:xs.length + ys.length ≤ 1099511627776):
  ∃ v w' β',(Builtin.append_ #[t,t'] ty #[yA (.sl τ) cx,vy]).run E.P w = .ok v w' ∧ Sane w' S β' ∧ Step w S β w' S β' ∧ (∀ b,S b → w'.heap[b]? = w.heap[b]?) ∧
   (∀ j s b,j ≠ d → j ≠ n → j ≠ n + 1 → β (j :: s) = some b → β' (j :: s) = some b ∧ w'.heap[b]? = w.heap[b]?) ∧ ∃ cr,v = yA (.sl τ) cr ∧ zP S β' H w' [d] (.sl τ) (.own e) (xs ++ ys:List τ.D) cr:=by
 obtain ⟨ad,cap,co,rfl,hlc,hcl,hc1,hcf,hce,hblk⟩:=A3e (P:=E.P) hw hx
 have hv:yA (.sl τ) [.slice ad xs.length cap] = .slice ad xs.length cap:=rfl
 rw [hv]
 by_cases hroom:xs.length + ys.length ≤ cap
 ·rcases hblk with ⟨hb,hxx⟩ | ⟨b,oo,cs,rfl,hk,hob,hz,hco⟩
  ·have hyy:ys = []:=List.length_eq_zero_iff.1 (by omega)
   subst hxx;subst hyy
   have hcy:cy = []:=List.length_eq_zero_iff.1 (by simpa using hyl)
   subst hcy
   have hrun:=fY (base:=ad) (ty:=ty) (w':=w) hok ha hroom (fun a _=>by simp [storeCells]) (fun _=>rfl)
   have hsr:=hs.rekey [n] [d]
   refine ⟨_,w,_,hrun,(hs.rekey [n] [d]).rekey [n + 1] [n],((Step.rekey [n] [d]).trans (Step.rekey [n + 1] [n])),fun _ _=>rfl,fun j s b h1 h2 h3 hb=>⟨?_,rfl⟩,[.slice ad 0 cap],rfl,?_⟩
   ·rw [wZ (yF h2) (yF h3),wZ (yF h1) (yF h2)];exact hb
   ·rw [hb];exact A76
  ·obtain ⟨el,fz,hbl,hf⟩:=hob
   have hle:oo + xs.length * τ.size + cy.length ≤ cs.size:=by
    rw [hyl]
    have:xs.length * τ.size + ys.length * τ.size ≤ cap * τ.size:=by rw [← Nat.add_mul];exact Nat.mul_le_mul_right _ hroom
    omega
   obtain ⟨w',cs',k1,k2,k3,k4,k5,k6⟩:=mH (P:=E.P) (vs:=cy) (i:=0) (o:=oo + xs.length * τ.size) hbl (fun j hj=>⟨by omega,hf.1 _ (by omega)⟩) hy1
   rw [Nat.add_zero] at k3
   have hsz:cs'.size = cs.size:=by
    have:=congrArg List.length k3
    rw [iR (by simpa using hle)] at this
    simpa using this
   have hSne:∀ b',S b' → b' ≠ b:=fun b' hb' e=>hs.sep [n] b hk (e ▸ hb')
   have hown:∀ k b',β k = some b' → k ≠ [n] → w'.heap[b']? = w.heap[b']?:=fun k b' hb' hne=>k4 b' (fun e=>hne (hs.inj _ _ _ hb' (e ▸ hk)))
   have hrun:=fY (base:=some ⟨b,oo,none⟩) (ty:=ty) (w':=w') hok ha hroom (fun a ha'=>by
    simp only [Option.some.injEq] at ha';subst ha'
    rw [jD];exact k1) (fun h=>by cases h)
   refine ⟨_,w',bF β n xs.length d b,hrun,hs.join (Nat.le_of_eq k5.symm) (fun k hb=>hs.inj _ _ _ hb hk) (hs.sep _ _ hk) (by rw [k5];exact hs.live _ _ hk) (fun b' hb'=>k4 b' (hSne b' hb')),Step.join (.inl ⟨_,hk⟩) (Nat.le_of_eq k5.symm) (fun b' _ hb'=>k4 b' (fun e=>hb' [n] (e ▸ hk))) k6,
    fun b' hb'=>k4 b' (hSne b' hb'),fun j s b' h1 h2 h3 hb=>⟨?_,hown _ _ hb (by simp [h2])⟩,[.slice (some ⟨b,oo,none⟩) (xs.length + ys.length) cap],rfl,?_⟩
   ·cases s with
    | nil=>simp only [bF];rw [if_neg h1,if_neg (by omega)];exact hb
    | cons j' s=>simp only [bF];rw [if_neg h1,if_neg (by omega)];exact hb
   ·simp only [zP,Fl.base]
    refine ⟨by simp [nQ,Fl.pins],_,cap,by rw [List.length_append],by rw [List.length_append];exact hroom,.inr ⟨b,oo,cs',rfl,by simp [bF],⟨el,fz,k2,by rw [hsz];exact hf⟩,by rw [hsz];exact hz,fun i y hi=>?_⟩⟩
    rw [k3]
    rcases aE hi with ⟨hlt',hi⟩ | ⟨hge,hi⟩
    ·have hlt2:(i + 1) * τ.size ≤ xs.length * τ.size:=Nat.mul_le_mul_right _ hlt'
     rw [Nat.add_mul,Nat.one_mul] at hlt2
     rw [uI (by simpa using hle) (.inl (by omega)),← pI (o:=oo) (n:=xs.length * τ.size) (by omega),← hco]
     refine zL (fun b' hb'=>⟨hb',k4 b' (hSne b' hb')⟩) (fun s b' hb'=>⟨?_,hown _ _ hb' (by simp)⟩) (hce i y hi)
     show bF β n xs.length d b (d :: i :: s) = some b'
     simp only [bF,if_true,if_pos hlt'];exact hb'
    ·have hj:i - xs.length < ys.length:=by unfold nth at hi;exact (List.getElem?_eq_some_iff.1 hi).1
     have hlt2:(i - xs.length + 1) * τ.size ≤ ys.length * τ.size:=Nat.mul_le_mul_right _ hj
     rw [Nat.add_mul,Nat.one_mul] at hlt2
     have e2:oo + i * τ.size = oo + xs.length * τ.size + (i - xs.length) * τ.size:=by
      have:i * τ.size = xs.length * τ.size + (i - xs.length) * τ.size:=by rw [← Nat.add_mul];congr 1;omega
      omega
     have e3:win (gT cs.toList (oo + xs.length * τ.size) cy) (oo + i * τ.size) τ.size = win cy ((i - xs.length) * τ.size) τ.size:=by
      rw [e2,← pI (n:=cy.length) (by rw [hyl];omega),iA (by simpa using hle)]
     rw [e3]
     refine zL (fun b' hb'=>⟨hb',k4 b' (hSne b' hb')⟩) (fun s b' hb'=>⟨?_,hown _ _ hb' (by simp)⟩) (hye _ y hi)
     show bF β n xs.length d b (d :: i :: s) = some b'
     simp only [bF,if_true,if_neg (Nat.not_lt.2 hge)];exact hb'
 ·obtain ⟨nc,w',hnc,hrun,hheap⟩:=AQ4 (ty:=ty) hok ha hroom hlen hcf
  have hl:∀ k b',β k = some b' → w'.heap[b']? = w.heap[b']?:=fun k b' hb'=>sU hheap (hs.live _ _ hb')
  have hS:∀ b',S b' → S b' ∧ w'.heap[b']? = w.heap[b']?:=fun b' hb'=>⟨hb',sU hheap (hs.liveS _ hb')⟩
  have hsz:=Al2 hheap
  refine ⟨_,w',bF β n xs.length d w.heap.size,hrun,hs.join (by omega) (fun k hb=>absurd (hs.live _ _ hb) (Nat.lt_irrefl _)) (fun hb=>absurd (hs.liveS _ hb) (Nat.lt_irrefl _)) (by omega) (fun b' hb'=>(hS b' hb').2),Step.join (.inr (Nat.le_refl _)) (by omega) (fun b' hb' _=>sU hheap hb') hheap.out,
   fun b' hb'=>(hS b' hb').2,fun j s b' h1 h2 h3 hb=>⟨?_,hl _ _ hb⟩,[.slice (some ⟨w.heap.size,0,none⟩) (xs.length + ys.length) nc],rfl,?_⟩
  ·cases s with
   | nil=>simp only [bF];rw [if_neg h1,if_neg (by omega)];exact hb
   | cons j' s=>simp only [bF];rw [if_neg h1,if_neg (by omega)];exact hb
  ·simp only [zP,Fl.base]
   refine ⟨by simp [nQ,Fl.pins],_,nc,by rw [List.length_append],by rw [List.length_append];exact hnc,.inr ⟨w.heap.size,0,_,rfl,by simp [bF],AF7.new hheap (.inl rfl),?_,fun i y hi=>?_⟩⟩
   ·simp only [Array.size_append,List.size_toArray,eV,hcl,hyl]
    have:nc * τ.size = xs.length * τ.size + ys.length * τ.size + (nc - (xs.length + ys.length)) * τ.size:=by
     rw [← Nat.add_mul,← Nat.add_mul];congr 1;omega
    omega
   ·rw [Nat.zero_add]
    simp only [Array.toList_append]
    rcases aE hi with ⟨hlt',hi⟩ | ⟨hge,hi⟩
    ·have hlt2:(i + 1) * τ.size ≤ xs.length * τ.size:=Nat.mul_le_mul_right _ hlt'
     rw [Nat.add_mul,Nat.one_mul] at hlt2
     rw [A6g _ _ _ _ (by omega)]
     refine zL hS (fun s b' hb'=>⟨?_,hl _ _ hb'⟩) (hce i y hi)
     show bF β n xs.length d w.heap.size (d :: i :: s) = some b'
     simp only [bF,if_true,if_pos hlt'];exact hb'
    ·have hj:i - xs.length < ys.length:=by unfold nth at hi;exact (List.getElem?_eq_some_iff.1 hi).1
     have hlt2:(i - xs.length + 1) * τ.size ≤ ys.length * τ.size:=Nat.mul_le_mul_right _ hj
     rw [Nat.add_mul,Nat.one_mul] at hlt2
     have e2:i * τ.size = co.length + (i - xs.length) * τ.size:=by
      rw [hcl,← Nat.add_mul];congr 1;omega
     rw [e2,BE6,A6g _ _ _ _ (by rw [hyl];omega)]
     refine zL hS (fun s b' hb'=>⟨?_,hl _ _ hb'⟩) (hye _ y hi)
     show bF β n xs.length d w.heap.size (d :: i :: s) = some b'
     simp only [bF,if_true,if_neg (Nat.not_lt.2 hge)];exact hb'
end
end Go.Rf

end
section
namespace Go.Rf
set_option linter.unusedSectionVars false
variable [T:Laid]
section
variable {P:Program} {H:Nat → Option (List Value)} {N:Nat} {g g' σ:yB} {V V':Nat → Option Value} {w w':World} {S S':Nat → Prop} {β β':Key → Option Nat} {a:Act} {o:Oper}
variable {E:Env} {gv:yB} {us:List Up}
theorem BO3 {d r c s u:Nat} {p:List PS} {v:SV} {val:Value} {e:Dat} (h0:r < N) (h1:c ≤ (g r).c) (h2:s ≤ (g r).s) (h3:u ≤ (g r).u) (h:r ≠ d → A7t H (g.up (.put d v)) w S β d r p e (some val)):
  pU H N (g.up (.put d v)) (upd V d val) w S β d (.pend r p c s u e):=by
 refine ⟨h0,?_⟩
 by_cases hr:r = d
 ·subst hr
  refine ⟨by rw [uE];simp;omega,by rw [uE];simp;omega,by rw [uE];simp;omega,fun ok=>?_⟩
  have:=(Ab4.1 ok).2
  rw [uE] at this;simp at this;omega
 ·refine ⟨by rw [qX hr];exact h1,by rw [qX hr];exact h2,by rw [qX hr];exact h3,fun _=>?_⟩
  have:(upd V d val) d = some val:=by simp [upd]
  rw [this];exact h hr
theorem oG {c:Call} {x y:Operand} {t t':TypeId} {val:Value} (ho:o.op = .call c) (hcal:c.callee = .builtin .append) (hargs:c.args = #[x,y]) (hts:c.argTypes = #[t,t'])
  (hr:(Builtin.append_ #[t,t'] o.type #[a.eval x,a.eval y]).run P w = .ok val w'):(execOp a.eval o).run P w = .ok (.value val) w':=
 fV ho hcal (s:=Builtin.append_ #[t,t'] o.type #[a.eval x,a.eval y]) (by rw [hargs,hts,show Array.map a.eval #[x,y] = #[a.eval x,a.eval y] by simp];rfl) hr
theorem A0G {d:Nat} {t:Ty} {x:t.D} {f:Fl} {val:Value} {ob:Obj} {c:List Value} (h:Rel H N g V w S β) (hD:yK N g) (hd:d < N) (hw:Pushed w w' ob) (hv:zP S (Ad5 β [d] w.heap.size) H w' [d] t f x c) (hval:val = yA t c):
  Rel H N (g.up (.put d (.dat ⟨t,x,f⟩))) (upd V d val) w' S (Ad5 β [d] w.heap.size):=
 h.finish (fun _ _=>rfl) hD (fun _ _=>rfl) hd (h.sane.new hw [d]) (fun b hb=>⟨hb,sU hw (h.sane.liveS b hb)⟩)
  (fun j s b hj _ hb=>⟨by unfold Ad5;rw [if_neg (by simp [hj])];exact hb,sU hw (h.sane.live _ b hb)⟩) ⟨c,hv,by simp [upd,hval]⟩
theorem AU2 {k:Key} {τ:Ty} {ad:Option Addr} {e:Fl} {xs:List τ.D} (h:xs = []):zP S β H w k (.sl τ) (.own e) xs [.slice ad xs.length 0]:=by
 subst h
 simp only [zP,Fl.base]
 exact ⟨by simp [nQ,Fl.pins],ad,0,rfl,by simp,.inl rfl⟩
theorem A0q {t t' e0:TypeId} {x y:Operand} {c:Call} {τ:Ty} {z:Value} {xs ys:List τ.D} {e:Fl} {us1:List Up} (hc:Ctx E.P H S β a w o g) (hs:Sub gv g) (ho:o.op = .call c) (hcal:c.callee = .builtin .append) (hargs:c.args = #[x,y]) (hts:c.argTypes = #[t,t'])
  (hok:SlOK E t e0 τ z) (hq:A1R gv τ (E.ty t') x y = some ((xs,ys),e,us1)) (hlen:xs.length + ys.length ≤ 1099511627776)
  (hk:oV o us1 (.dat ⟨.sl τ,(xs ++ ys:List τ.D),.own e⟩) some = some us):yM E.P H S β a w o (g.ups us):=by
 unfold A1R at hq
 split at hq
 ·rename_i τ' ht
  obtain ⟨e',he',_⟩:=AY2 ht
  split at hq
  ·rename_i i1 τ1 xs1 e1 i2 τ2 ys1 e2 us2 htp
   split at hq
   ·rename_i hcond
    simp only [Bool.and_eq_true,decide_eq_true_eq] at hcond
    obtain ⟨hee,_⟩:=hcond
    subst hee
    obtain ⟨xs2,hx2,hq⟩:=Option.bind_eq_some_iff.1 hq
    obtain ⟨ys2,hy2,hq⟩:=Option.map_eq_some_iff.1 hq
    simp only [Prod.mk.injEq] at hq
    obtain ⟨⟨rfl,rfl⟩,rfl,rfl⟩:=hq
    obtain ⟨hex,hx2⟩:=vV hx2
    cases hex
    have hx2:xs = xs1:=hx2
    subst hx2
    obtain ⟨hey,hy2⟩:=vV hy2
    cases hey
    have hy2:ys = ys1:=hy2
    subst hy2
    obtain ⟨dd,hdst,rfl⟩:=yN hk
    have hd:=xS hc.opIn hdst
    obtain ⟨S1,β1,g1,V1,cs,k1,k2,k3,k4,k5,k6⟩:=AA4 (ps:=#[(0,x),(1,y)]) hc hs htp (by
     intro q hq
     rw [ho]
     simp only [List.mem_cons,List.not_mem_nil,or_false] at hq
     rcases hq with rfl | rfl <;> simp [Op.operands,Call.operands,hargs])
    obtain ⟨k31,k32⟩:=k3
    match cs,k31 with
    | [cx,cy],_=>
     obtain ⟨m1,m2,m3,m4⟩:=k32 0 _ cx rfl rfl
     obtain ⟨n1,n2,n3,n4⟩:=k32 1 _ cy rfl rfl
     rw [Nat.add_zero] at m1 m2
     obtain ⟨cx',hvx,hVx⟩:=k1.dat m1
     obtain ⟨cy',hvy,hVy⟩:=k1.dat n1
     have ex:cx' = cx:=tK (Option.some.inj (hVx.symm.trans m2)) (zU hvx) m3
     have ey:cy' = cy:=tK (Option.some.inj (hVy.symm.trans n2)) (zU hvy) n3
     subst ex;subst ey
     simp only [dW,List.zip_cons_cons,List.zip_nil_right,List.map_cons,List.map_nil,Array.toList_map,List.cons.injEq,Prod.mk.injEq,and_true] at k6
     obtain ⟨⟨_,exv⟩,_,eyv⟩:=k6
     have hwh:e1.whole = true:=m4
     obtain ⟨ady,capy,cyy,q1,q2,q3,q4,q5,q6,_⟩:=A3e (P:=E.P) hwh hvy
     subst q1
     have hadd:A5K E.P w t' τ.size z.cells (yA (.sl τ) [.slice ady ys.length capy]) ys.length cyy:=.inl ⟨_,he',by simp,fun w'=>by simp [yA,Ty.agg,Builtin.lenOf],fun w' hw'=>q5 w' hw'⟩
     obtain ⟨v,w',β',r1,r2,r3,r4,r5,cr,r6,r7⟩:=A9J (ty:=o.type) (d:=dd) hwh hok k1.sane hvx q3 q4 q6 hadd hlen
     intro K Q hK
     refine tX (oG ho hcal hargs hts (by rw [exv,eyv];exact r1)) (hK _ _ S1 β' vC yW ?_ (k2.trans r3))
     rw [hdst,uF hd,xB]
     refine k4.finish (fun _ _=>rfl) k5 (fun _ _=>rfl) hd r2 (fun b hb=>⟨hb,r4 b hb⟩) (fun j s b hj ha hb=>?_) ⟨cr,r7,by simp [upd,r6]⟩
     have:=k5.lt ha
     exact r5 j s b hj (by omega) (by omega) hb
    | [],h | [_],h=>simp at h
    | _ :: _ :: _ :: _,h=>simp at h
   ·cases hq
  ·cases hq
 ·cases hq
theorem A1T {t t':TypeId} {x y:Operand} {c:Call} (hc:Ctx E.P H S β a w o g) (hs:Sub gv g) (ho:o.op = .call c) (hcal:c.callee = .builtin .append) (hargs:c.args = #[x,y]) (hts:c.argTypes = #[t,t'])
  (hk:Aa1 gv o (E.sl t) (E.ty t') x y some = some us):yM E.P H S β a w o (g.ups us):=by
 unfold Aa1 at hk
 split at hk
 ·rename_i τ ht
  obtain ⟨τ2,e,z,heq,hok⟩:=A6o ht
  simp only [Ty.sl.injEq] at heq
  subst heq
  split at hk
  ·rename_i xs ys e0 us1 hq
   simp only [Bool.cond_eq_ite] at hk
   split at hk
   ·rename_i hlen
    exact A0q hc hs ho hcal hargs hts hok hq (AY8 hlen) hk
   ·cases hk
  simp only [Bool.cond_eq_ite] at hk
  split at hk
  case isFalse=>cases hk
  rename_i hcondA
  split at hk
  case isFalse=>cases hk
  rename_i hcondD
  split at hk
  ·rename_i ys us1 hadds
   have hadds:=A8z hcondA hcondD hadds
   split at hk
   ·rename_i xs vs q hfirst
    try simp only [Bool.cond_eq_ite] at hk
    split at hk
    ·rename_i hlen
     have hlen:=AY8 hlen
     obtain ⟨S1,β1,cy,vy,hrel,hst,hsub,halive,hel,hvy,hadd⟩:=A29 hc.rel hs hok.cells hok.size hadds
     have hD0:yK a.tmps.size (g.ups us1):=hc.dead.ups fun u hu=>hc.dead.lt (halive u hu)
     have eyv:=zJ hvy
     unfold A54 at hfirst
     split at hfirst
     ·
      rename_i hx
      simp only [Option.some.injEq,Prod.mk.injEq] at hfirst
      obtain ⟨rfl,rfl,rfl⟩:=hfirst
      simp only [List.append_nil,List.nil_append] at hk
      obtain ⟨dd,hdst,rfl⟩:=yN hk
      have hd:=xS hc.opIn hdst
      have hxv:a.eval x = .slice none 0 0:=by
       rcases aB (hsub.sv hx (by simp)) with ⟨s,rfl,h'⟩ | rfl
       ·have:=hrel.slots s
        rw [h'] at this;exact this.elim
       ·rfl
      have hcore:=AR6 (ty:=o.type) (ad:=none) (xs:=([]:List τ.D)) (key:=[dd]) (β:=β1) (H:=H) hok (AU2 rfl) hel hadd (by simpa using hlen) (fun b hb=>hrel.sane.sep _ _ hb) hrel.sane.liveS
      intro K Q hK
      rcases hcore with ⟨w',hrun,hres⟩ | ⟨w',nc,ob,hrun,hheap,hres⟩
      ·rcases hres with ⟨rfl,_,_,hyy⟩ | ⟨b₀,oo,hnone,_⟩
       ·subst hyy
        refine tX (oG ho hcal hargs hts (by rw [hxv,eyv];exact hrun)) (hK _ _ S1 β1 vC yW ?_ hst)
        rw [hdst,uF hd,xB]
        exact hrel.finish (fun _ _=>rfl) hD0 (fun _ _=>rfl) hd hrel.sane (fun b hb=>⟨hb,rfl⟩) (fun _ _ _ _ _ hb=>⟨hb,rfl⟩) ⟨[.slice none 0 0],AU2 (ad:=none) (xs:=([]:List τ.D)) rfl,by simp [upd,yA,Ty.agg]⟩
       ·cases hnone
      ·refine tX (oG ho hcal hargs hts (by rw [hxv,eyv];exact hrun)) (hK _ _ S1 _ vC yW ?_ (hst.trans (Step.newB hheap [dd])))
       rw [hdst,uF hd,xB]
       exact A0G hrel hD0 hd hheap (hres [dd] _ (by simp [Ad5])) rfl
     ·
      rename_i r p c0 s0 u0 d0 hx
      split at hfirst
      ·rename_i τ' xs0 vs0 htk
       obtain ⟨xs1,hcast,hpair⟩:=Option.map_eq_some_iff.1 hfirst
       simp only [Prod.mk.injEq] at hpair
       obtain ⟨rfl,rfl,rfl⟩:=hpair
       obtain ⟨het,hex⟩:=vV hcast
       cases het
       have hex:xs1 = xs0:=hex
       subst hex
       simp only at hk
       obtain ⟨dd,hdst,rfl⟩:=yN hk
       have hd:=xS hc.opIn hdst
       rw [← hx] at htk
       obtain ⟨htk',_⟩:=bZ hsub htk
       have hal2:=eN htk'
       have hD1:yK a.tmps.size ((g.ups us1).ups vs0):=hD0.ups fun u hu=>hD0.lt (hal2 u hu)
       obtain ⟨S2,β2,cc,k1,k2,k3,k4⟩:=eU hrel htk' (n:=a.tmps.size) (hD0 _ (Nat.le_refl _)) (Nat.le_refl _)
       obtain ⟨cx,hvr,hVn⟩:=k1.dat fS
       have hcc:cx = cc:=by
        simp only [upd,if_true] at hVn
        exact (tK (Option.some.inj hVn) k4 (zU hvr)).symm
       subst hcc
       have hfin:Rel H a.tmps.size ((g.ups us1).ups vs0) (oR a) w S2 β2:=k1.fin (fun i hi=>(fN (by omega)).symm) hD1 (fun i hi=>by simp only [upd];rw [if_neg (by omega)])
       have hvr0:=hvr
       simp only [zP,Fl.base] at hvr0
       obtain ⟨_,ad,cap,rfl,_,_⟩:=hvr0
       have exv:a.eval x = .slice ad (List.length xs1) cap:=zJ k3
       have hcore:=AR6 (ty:=o.type) (xs:=xs1) (key:=[a.tmps.size]) (β:=β2) (H:=H) hok hvr (hel.len |> fun _=>(⟨hel.len,hel.one,fun j v h=>zR (fun b hb=>⟨k2.keepS b hb,rfl⟩) (hel.get j v h)⟩:Elems S2 w τ ys cy)) hadd hlen (fun b hb=>k1.sane.sep _ _ hb) k1.sane.liveS
       intro K Q hK
       rcases hcore with ⟨w',hrun,hres⟩ | ⟨w',nc,ob,hrun,hheap,hres⟩
       ·rcases hres with ⟨rfl,hcap,hxx,hyy⟩ | ⟨b₀,oo,had,hb0,hchg,hsz,hnew⟩
        ·refine tX (oG ho hcal hargs hts (by rw [exv,eyv];exact hrun)) (hK _ _ S2 β2 vC yW ?_ (hst.trans k2))
         rw [hdst,uF hd,xB,xB]
         refine hfin.finish (fun _ _=>rfl) hD1 (fun _ _=>rfl) hd hfin.sane (fun b hb=>⟨hb,rfl⟩) (fun _ _ _ _ _ hb=>⟨hb,rfl⟩) ⟨[.slice ad (List.length xs1 + ys.length) cap],?_,by simp [upd,yA,Ty.agg]⟩
         have hn:xs1 ++ ys = []:=by rw [hxx,hyy];rfl
         have:=AU2 (S:=S2) (β:=β2) (H:=H) (w:=w') (k:=[dd]) (ad:=ad) (e:=.sh) hn
         rw [List.length_append] at this
         rw [hcap];exact this
        ·refine tX (oG ho hcal hargs hts (by rw [exv,eyv];exact hrun)) (hK _ _ S2 (rekey β2 [a.tmps.size] [dd]) vC yW ?_ (((hst.trans k2).trans (Step.store hb0 hchg hsz)).trans ((Step.rekey [a.tmps.size] [dd]).at hsz |> fun h=>⟨h.size,h.old,h.new,h.keepS,h.newS,h.out⟩)))
         rw [hdst,uF hd,xB,xB]
         have hne:∀ b,S2 b → b ≠ b₀:=fun b hb e=>k1.sane.sep _ _ hb0 (e ▸ hb)
         have hsr:=k1.sane.rekey [a.tmps.size] [dd]
         refine hfin.finish (fun _ _=>rfl) hD1 (fun _ _=>rfl) hd ⟨hsr.inj,hsr.sep,fun k b hk=>by rw [hsz];exact hsr.live k b hk,fun b hk=>by rw [hsz];exact hsr.liveS b hk,hsr.tabs fun b hb=>⟨hb,hchg.other b (hne b hb)⟩⟩ (fun b hb=>⟨hb,hchg.other b (hne b hb)⟩)
          (fun j s b hj ha hb=>⟨?_,hchg.other b (fun e=>?_)⟩) ⟨_,oZ hnew,by simp [upd,yA,Ty.agg]⟩
         ·have:=hD1.lt ha
          rw [wZ (yF hj) (yF (by omega))];exact hb
         ·subst e
          have:=k1.sane.inj _ _ _ hb hb0
          have hjN:=hD1.lt ha
          simp only [List.cons.injEq] at this
          omega
       ·refine tX (oG ho hcal hargs hts (by rw [exv,eyv];exact hrun)) (hK _ _ S2 _ vC yW ?_ ((hst.trans k2).trans (Step.newB hheap [dd])))
        rw [hdst,uF hd,xB,xB]
        exact A0G hfin hD1 hd hheap (hres [dd] _ (by simp [Ad5])) rfl
      ·cases hfirst
     ·
      split at hfirst
      ·rename_i q0 hq
       split at hfirst
       ·rename_i τ' xs0 hat
        obtain ⟨xs1,hcast,hpair⟩:=Option.map_eq_some_iff.1 hfirst
        simp only [Prod.mk.injEq] at hpair
        obtain ⟨rfl,rfl,rfl⟩:=hpair
        obtain ⟨het,hex⟩:=vV hcast
        cases het
        have hex:xs1 = xs0:=hex
        subst hex
        simp only at hk
        obtain ⟨dd,hdst,rfl⟩:=yN hk
        have hd:=xS hc.opIn hdst
        obtain ⟨hq',hat',hr⟩:=AJ1 hsub hq hat
        obtain ⟨e0,cr,L,cc,he0,hg0,hb0,hV0,hl0,hvr,hw0,hcc0,hvp,hxv⟩:=AC4 hrel hq' hat' (by simp [Fl.base])
        have hvp0:=hvp
        simp only [zP,Fl.base] at hvp0
        obtain ⟨_,ad,cap,rfl,hlc,hvp1⟩:=hvp0
        have exv:a.eval x = .slice ad (List.length xs1) cap:=zJ hxv
        have hgv:(gv.ups us1) q0.1 = (g.ups us1) q0.1:=hr.symm
        have hq0N:=hD0.root he0
        have hcore:=AR6 (ty:=o.type) (xs:=xs1) (key:=q0.1 :: xP q0.2) (β:=β1) (H:=H) hok hvp hel hadd hlen (fun b hb=>hrel.sane.sep _ _ hb) hrel.sane.liveS
        have hups:(g.ups (us1 ++ [Up.pub q0.1 ((gv.ups us1) q0.1).sv] ++ [Up.put dd (.pend q0.1 q0.2 ((gv.ups us1) q0.1).c ((gv.ups us1) q0.1).s (((gv.ups us1) q0.1).u + 1) ⟨.sl τ,(xs1 ++ ys:List τ.D),.own .sh⟩)])) =
          ((g.ups us1).up (.pub q0.1 (.dat e0))).up (.put dd (.pend q0.1 q0.2 ((g.ups us1) q0.1).c ((g.ups us1) q0.1).s (((g.ups us1) q0.1).u + 1) ⟨.sl τ,(xs1 ++ ys:List τ.D),.own .sh⟩)):=by
         rw [xB,xB,hgv,he0];rfl
        rw [hups]
        have g1q:((g.ups us1).up (.pub q0.1 (.dat e0))) q0.1 = ⟨.dat e0,((g.ups us1) q0.1).c,((g.ups us1) q0.1).s,((g.ups us1) q0.1).u + 1⟩:=mO (u:=.pub q0.1 (.dat e0))
        have hD1:yK a.tmps.size ((g.ups us1).up (.pub q0.1 (.dat e0))):=hD0.up hq0N
        have fin:∀ {w':World} {S2:Nat → Prop} {β2:Key → Option Nat} {val:Value} {cx:List Value},Rel H a.tmps.size ((g.ups us1).up (.pub q0.1 (.dat e0))) (oR a) w' S2 β2 → ∀ {w2:World} {β3:Key → Option Nat},Sane w2 S2 β3 → (∀ b,S2 b → w2.heap[b]? = w'.heap[b]?) →
          (∀ j s b,j ≠ dd → β2 (j :: s) = some b → β3 (j :: s) = some b ∧ w2.heap[b]? = w'.heap[b]?) → val = yA (.sl τ) cx →
          (q0.1 ≠ dd → ∃ β4,(β4 = β3 ∨ ∃ b,β3 [dd] = some b ∧ β4 = repl β3 (q0.1 :: xP q0.2) dd b) ∧ zP S2 β4 H w2 (q0.1 :: xP q0.2) (.sl τ) (.own .sh) (xs1 ++ ys:List τ.D) cx) →
          Rel H a.tmps.size (((g.ups us1).up (.pub q0.1 (.dat e0))).up (.put dd (.pend q0.1 q0.2 ((g.ups us1) q0.1).c ((g.ups us1) q0.1).s (((g.ups us1) q0.1).u + 1) ⟨.sl τ,(xs1 ++ ys:List τ.D),.own .sh⟩))) (upd (oR a) dd val) w2 S2 β3:=by
         intro w' S2 β2 val cx hR w2 β3 hs2 hS2 hβ2 hval hex
         refine hR.finish (fun _ _=>rfl) hD1 (fun _ _=>rfl) hd hs2 (fun b hb=>⟨hb,hS2 b hb⟩) (fun j s b hj _ hb=>hβ2 j s b hj hb) ?_
         refine BO3 hq0N (by rw [g1q];exact Nat.le_refl _) (by rw [g1q];exact Nat.le_refl _) (by rw [g1q];exact Nat.le_refl _) fun hne dr hdr=>?_
         rw [qX hne,g1q] at hdr
         simp only [SV.dat.injEq] at hdr
         subst hdr
         obtain ⟨β4,h1,h2⟩:=hex hne
         exact ⟨⟨_,hg0,by simp [Fl.base],hb0⟩,β4,cx,h1,h2,by rw [hval]⟩
        intro K Q hK
        rcases hcore with ⟨w',hrun,hres⟩ | ⟨w',nc,ob,hrun,hheap,hres⟩
        ·rcases hres with ⟨rfl,hcap,hxx,hyy⟩ | ⟨b₀,oo,had,hkb,hchg,hsz,hnew⟩
         ·refine tX (oG ho hcal hargs hts (by rw [exv,eyv];exact hrun)) (hK _ _ S1 β1 vC yW ?_ hst)
          rw [hdst,uF hd]
          refine fin (cx:=[.slice ad (List.length xs1 + ys.length) cap]) (hrel.touch he0) hrel.sane (fun _ _=>rfl) (fun j s b _ hb=>⟨hb,rfl⟩) rfl (fun _=>⟨β1,.inl rfl,?_⟩)
          have hn:xs1 ++ ys = []:=by rw [hxx,hyy];rfl
          have:=AU2 (S:=S1) (β:=β1) (H:=H) (w:=w') (k:=q0.1 :: xP q0.2) (ad:=ad) (e:=.sh) hn
          rw [List.length_append] at this
          rw [hcap];exact this
         ·subst had
          have hbeh:Behind S1 β1 w w' ([q0.1] ++ xP q0.2) b₀ (oo + List.length xs1 * τ.size) cy:=⟨hchg,fun key hkey=>hrel.sane.inj _ _ _ hkey hkb,fun hS=>hrel.sane.sep _ _ hkb hS⟩
          have hcells:zF w e0.t.size (.reg cr) = some cr:=by simp [zF,hl0]
          have hcells':zF w' e0.t.size (.reg cr) = some cr:=by simp [zF,hl0]
          have hne:∀ b,S1 b → b ≠ b₀:=fun b hb e=>hrel.sane.sep _ _ hkb (e ▸ hb)
          have hsane':Sane w' S1 β1:=⟨hrel.sane.inj,hrel.sane.sep,fun k b hk=>by rw [hsz];exact hrel.sane.live k b hk,fun b hk=>by rw [hsz];exact hrel.sane.liveS b hk,hrel.sane.tabs fun b hb=>⟨hb,hchg.other b (hne b hb)⟩⟩
          have hpub:Rel H a.tmps.size ((g.ups us1).up (.pub q0.1 (.dat ⟨e0.t,e0.x,e0.f⟩))) (oR a) w' S1 β1:=by
           refine hrel.pub he0 hsane' (fun b hb=>⟨hb,hchg.other b (hne b hb)⟩) (fun j s b hj _ hb=>⟨hb,hchg.other b (fun e=>?_)⟩) (fun p d L2 cr2 c2 h1 h2 h3 h4 h5 h6 h7=>?_) ⟨cr,?_,hV0⟩
           ·subst e
            have:=hrel.sane.inj _ _ _ hb hkb
            simp only [List.cons.injEq] at this
            exact hj this.1
           ·have hcr:cr2 = cr:=tK (Option.some.inj (h4.symm.trans hV0)) (zU h5) hl0
            subst hcr
            obtain ⟨Lq,cq,k1,k2,k3,k4⟩:=AL5 (w':=w') (k:=[q0.1]) h1 h2 h3 hg0 rfl hb0 hcells hcells' hvr hw0 (by simpa [Ty.size] using hcc0) (Nat.le_refl _) hbeh
            rw [h6] at k1
            simp only [Option.some.injEq,Prod.mk.injEq,true_and] at k1
            subst k1
            rw [h7] at k3
            cases k3
            exact ⟨⟨d.f,h1,h2⟩,k2,k4⟩
           ·exact AK5 hg0 rfl hb0 hcells hvr hw0 (by simpa [Ty.size] using hcc0) (Nat.le_refl _) hbeh
          refine tX (oG ho hcal hargs hts (by rw [exv,eyv];exact hrun)) (hK _ _ S1 β1 vC yW ?_ (hst.trans (Step.store hkb hchg hsz)))
          rw [hdst,uF hd]
          exact fin hpub hsane' (fun _ _=>rfl) (fun j s b _ hb=>⟨hb,rfl⟩) rfl (fun _=>⟨β1,.inl rfl,hnew⟩)
        ·refine tX (oG ho hcal hargs hts (by rw [exv,eyv];exact hrun)) (hK _ _ S1 _ vC yW ?_ (hst.trans (Step.newB hheap [dd])))
         rw [hdst,uF hd]
         refine fin (hrel.touch he0) (hrel.sane.new hheap [dd]) (fun b hb=>sU hheap (hrel.sane.liveS b hb)) (fun j s b hj hb=>⟨by unfold Ad5;rw [if_neg (by simp [hj])];exact hb,sU hheap (hrel.sane.live _ b hb)⟩) rfl
          (fun _=>⟨repl (Ad5 β1 [dd] w.heap.size) (q0.1 :: xP q0.2) dd w.heap.size,.inr ⟨w.heap.size,by simp [Ad5],rfl⟩,hres _ _ (by simp [repl])⟩)
       ·cases hfirst
      ·cases hfirst
    ·cases hk
   ·cases hk
  ·cases hk
 ·cases hk
end
end Go.Rf

end
section
namespace Go.Rf
set_option linter.unusedSectionVars false
variable [T:Laid]
section
variable {P:Program} {H:Nat → Option (List Value)} {N:Nat} {g g' σ:yB} {V V':Nat → Option Value} {w w':World} {S S':Nat → Prop} {β β':Key → Option Nat} {a:Act} {o:Oper}
variable {E:Env} {gv:yB} {us:List Up}
theorem AO2 (hs:Sub gv g):∀ {xs:List Operand} {rs:List (Nat × Nat)},AA5 gv xs = some rs → xs = rs.map (fun x=>.tmp x.1) ∧ ∀ x ∈ rs,(g x.1).s = x.2 ∧ (g x.1).sv ≠ .dead
 | [],rs,h=>by
  simp only [AA5,Option.some.injEq] at h;subst h;exact ⟨rfl,by simp⟩
 | x :: xs,rs,h=>by
  cases x with
  | tmp s=>
   simp only [AA5] at h
   split at h
   ·rename_i t y f hy
    simp only [Option.map_eq_some_iff] at h
    obtain ⟨rs',h',rfl⟩:=h
    obtain ⟨h1,h2⟩:=AO2 hs h'
    have hg:=hs.get hy (by simp)
    refine ⟨by simp [h1],fun x hx=>?_⟩
    rcases List.mem_cons.1 hx with rfl | hx
    ·exact ⟨by simp only [hg],by simp only [hg,hy];simp⟩
    ·exact h2 x hx
   ·cases h
  | _=>simp [AA5] at h
theorem Ar2 {h:FuncId} {caps:Array Operand} {rs:List (Nat × Nat)} (hc:Ctx P H S β a w o g) (hs:Sub gv g) (hm:o.op = .makeFunc (.func h) #[] caps) (hr:AA5 gv caps.toList = some rs)
  (hk:oV o [] (.clo h rs) some = some us):yM P H S β a w o (g.ups us):=by
 obtain ⟨d,ho,rfl⟩:=yN hk
 obtain ⟨h1,h2⟩:=AO2 hs hr
 refine AZ8 (val:=.func (.func h) #[] (caps.map a.eval)) hc.rel hc.dead ho (xS hc.opIn ho) (by simp [execOp,hm,Instr.makeFunc]) ?_
 refine A4c (fun x hx=>⟨hc.dead.lt (h2 x hx).2,by rw [(h2 x hx).1];exact Nat.le_refl _⟩) fun _ vs hvs=>?_
 congr 2
 apply Array.toList_inj.1
 rw [Array.toList_map,h1,List.map_map]
 have:(rs.map fun x=>oR a x.1) = rs.map fun x=>some (a.eval (.tmp x.1)):=List.map_congr_left fun x hx=>lU (hc.dead.lt (h2 x hx).2)
 rw [this] at hvs
 have h3:(rs.map fun x=>a.eval (.tmp x.1)).map some = vs.map some:=by rw [← hvs,List.map_map];rfl
 have h4:=(List.map_inj_right (fun _ _=>Option.some.inj)).1 h3
 simpa [Function.comp_def] using h4
end
end Go.Rf

end
section
namespace Go.Rf
set_option linter.unusedSectionVars false
variable [T:Laid]
section
variable {P:Program} {H:Nat → Option (List Value)} {N:Nat} {g g' σ:yB} {V V':Nat → Option Value} {w w':World} {S S':Nat → Prop} {β β':Key → Option Nat} {a:Act} {o:Oper}
variable {E:Env} {gv:yB} {us:List Up}
def A1U (S:Nat → Prop) (β:Key → Option Nat) (rs:List Nat):Nat → Prop:=fun b=>S b ∨ ∃ r ∈ rs,∃ s,β (r :: s) = some b
theorem AT8 (h:Rel H N g V w S β) {L:List Nat}:∀ {rs:List (Nat × Nat)} {cs:FCaps},(∀ x ∈ rs,x.1 ∈ L) → bP g rs = some cs →
  (∀ x ∈ rs,(g x.1).s = x.2) ∧ ∃ vs:List Value,rs.map (fun x=>V x.1) = vs.map some ∧ nW (A1U S β L) w cs vs
 | [],cs,_,hc=>by
  simp only [bP,Option.some.injEq] at hc;subst hc
  exact ⟨by simp,[],rfl,by simp [nW]⟩
 | (r,s) :: rs,cs,hL,hc=>by
  simp only [bP] at hc
  have hrd:∀ {t:Ty} {x:(Ty.ptr t).D} {f:Fl} {c:List Value},f.whole = true → zP S β H w [r] (.ptr t) f x c → Rd (A1U S β L) w (.ptr t) x c:=fun hw hv=>
   vW hw (fun _=>.inl) (fun k b hb=>.inr ⟨r,hL (r,s) List.mem_cons_self,k,by simpa using hb⟩) hv
  split at hc
  ·rename_i k n f he
   split at hc
   ·rename_i hok
    simp only [Bool.and_eq_true,Nat.beq_eq] at hok
    simp only [Option.map_eq_some_iff] at hc
    obtain ⟨cs',hc,rfl⟩:=hc
    obtain ⟨h1,vs,h2,h3⟩:=AT8 h (fun x hx=>hL x (by simp [hx])) hc
    obtain ⟨c,hv,hV⟩:=h.dat he
    have:=hrd hok.2 hv
    simp only [Rd] at this
    obtain ⟨b,cs2,rfl,hb,hB,hz,h4⟩:=this
    refine ⟨?_,.pointer (some ⟨b,0,none⟩) :: vs,?_,?_⟩
    ·intro x hx
     rcases List.mem_cons.1 hx with rfl | hx
     ·exact hok.1
     ·exact h1 x hx
    ·simp only [List.map_cons,h2,List.cons.injEq,and_true];exact hV
    ·simp only [nW]
     refine ⟨b,vs,rfl,hb,?_,h3⟩
     have:cs2 = #[.int k n]:=by apply Array.toList_inj.1;rw [h4]
     rwa [← this]
   ·cases hc
  ·rename_i v f he
   split at hc
   ·rename_i hok
    simp only [Bool.and_eq_true,Nat.beq_eq] at hok
    simp only [Option.map_eq_some_iff] at hc
    obtain ⟨cs',hc,rfl⟩:=hc
    obtain ⟨h1,vs,h2,h3⟩:=AT8 h (fun x hx=>hL x (by simp [hx])) hc
    obtain ⟨c,hv,hV⟩:=h.dat he
    have:=hrd hok.2 hv
    simp only [Rd] at this
    obtain ⟨b,cs2,rfl,hb,hB,hz,u,h4,h5⟩:=this
    refine ⟨?_,.pointer (some ⟨b,0,none⟩) :: vs,?_,?_⟩
    ·intro x hx
     rcases List.mem_cons.1 hx with rfl | hx
     ·exact hok.1
     ·exact h1 x hx
    ·simp only [List.map_cons,h2,List.cons.injEq,and_true];exact hV
    ·simp only [nW]
     refine ⟨b,u,vs,rfl,hb,?_,h5,h3⟩
     have:cs2 = #[u]:=by apply Array.toList_inj.1;rw [h4]
     rwa [← this]
   ·cases hc
  ·cases hc
theorem A4v {x:Operand} {d:Dat} (h:Rel H N g V w S β) (hd:yV g (sv g x) = some d):
  ∃ c,evl V x = some (yA d.t c) ∧ Rd (A1U S β (fJ g x (sv g x))) w d.t d.x c:=by
 have freeR:∀ {t:Ty} {x:t.D} {c:List Value} {L:List Nat},Rd S w t x c → Rd (A1U S β L) w t x c:=fun hr=>zR (fun b hb=>⟨.inl hb,rfl⟩) hr
 cases hv:sv g x with
 | dead=>rw [hv] at hd;simp [yV] at hd
 | und=>rw [hv] at hd;simp [yV] at hd
 | unk=>rw [hv] at hd;simp [yV] at hd
 | tup d=>rw [hv] at hd;simp [yV] at hd
 | adr _ _ _ _=>rw [hv] at hd;simp [yV] at hd
 | nils=>rw [hv] at hd;simp [yV] at hd
 | dat e=>
  rw [hv] at hd
  simp only [yV] at hd
  split at hd
  ·rename_i hw
   simp only [Option.some.injEq] at hd;subst hd
   rcases mZ h hv with ⟨s,rfl,hs⟩ | ⟨hf,c,hc,hrd⟩
   ·obtain ⟨c,hvr,hV⟩:=h.dat hs
    refine ⟨c,hV,?_⟩
    simp only [fJ]
    split
    ·rename_i hf
     rw [uD hf,yQ] at hvr;exact freeR hvr
    ·exact vW hw (fun _=>.inl) (fun k b hb=>.inr ⟨s,by simp,k,by simpa using hb⟩) hvr
   ·exact ⟨c,hc,freeR hrd⟩
  ·cases hd
 | clo f rs=>
  rw [hv] at hd
  obtain ⟨s,rfl,hs⟩:=tH hv (by simp) (by simp) (by simp)
  simp only [yV,Option.map_eq_some_iff] at hd
  obtain ⟨cs,hc,rfl⟩:=hd
  obtain ⟨h1,vs,h2,h3⟩:=AT8 h (L:=rs.map (·.1)) (fun x hx=>List.mem_map.2 ⟨x,hx,rfl⟩) hc
  have hss:=h.slots s
  rw [hs] at hss
  have:=hss.2 h1 vs h2
  refine ⟨[.func (.func f) #[] vs.toArray],this,?_⟩
  simp only [Rd,A10,fJ]
  exact ⟨_,rfl,vs,rfl,h3⟩
 | als r p c s=>
  rw [hv] at hd
  obtain ⟨i,rfl,hi⟩:=tH hv (by simp) (by simp) (by simp)
  simp only [yV] at hd
  split at hd
  ·rename_i hok
   split at hd
   ·rename_i e he
    split at hd
    ·rename_i hw
     simp only [Option.some.injEq] at hd;subst hd
     obtain ⟨e',he',hg⟩:=gR he
     obtain ⟨_,hb,hnd,cr,L,c',k1,k2,k3,k4,k5,k6,k7⟩:=h.als hi hok he' hg
     refine ⟨c',k7,?_⟩
     simp only [fJ,he]
     split
     ·rename_i hf
      rw [uD hf,yQ] at k6;exact freeR k6
     ·exact vW hw (fun _=>.inl) (fun k b hb=>.inr ⟨r,by simp,xP p ++ k,by simpa using hb⟩) k6
    ·cases hd
   ·cases hd
  ·cases hd
 | pend r p c s u e=>
  rw [hv] at hd
  obtain ⟨i,rfl,hi⟩:=tH hv (by simp) (by simp) (by simp)
  simp only [yV] at hd
  split at hd
  ·rename_i hok
   simp only [Bool.and_eq_true] at hok
   split at hd
   ·rename_i e' he
    simp only [Option.some.injEq] at hd;subst hd
    have hss:=h.slots i
    rw [hi] at hss
    obtain ⟨h0,_,_,_,hss⟩:=hss
    obtain ⟨_,β2,cc,hβ2,hvr,hV⟩:=hss hok.1 e' he
    refine ⟨cc,hV,vW hok.2 (fun _=>.inl) (fun k b hb=>?_) hvr⟩
    simp only [fJ]
    rcases hβ2 with rfl | ⟨b2,hb2,rfl⟩
    ·exact .inr ⟨r,by simp,xP p ++ k,by simpa using hb⟩
    ·unfold repl at hb
     split at hb
     ·cases hb;exact .inr ⟨i,by simp,[],hb2⟩
     ·split at hb
      ·cases hb
      ·exact .inr ⟨r,by simp,xP p ++ k,by simpa using hb⟩
   ·cases hd
  ·cases hd
end
end Go.Rf

end
section
namespace Go.Rf
set_option linter.unusedSectionVars false
variable [T:Laid]
section
variable {S S':Nat → Prop} {β β':Key → Option Nat} {H:Nat → Option (List Value)} {w w':World}
theorem aV:∀ {t:Ty} {x:t.D} {c:List Value},A1v t = true → Rd S w t x c → Rd S' w' t x c
 | .int _,_,_,_,h | .bool,_,_,_,h | .str,_,_,_,h | .unit,_,_,_,h=>by simpa only [Rd] using h
 | .arr _ t,_,_,hs,h=>by
  simp only [Rd] at h ⊢
  exact ⟨h.1,h.2.1,fun i y hy=>aV hs (h.2.2 i y hy)⟩
 | .pair a b,_,_,hs,h=>by
  simp only [A1v,Bool.and_eq_true] at hs
  simp only [Rd] at h ⊢
  exact ⟨aV hs.1 h.1,aV hs.2 h.2⟩
 | .fn,_,_,hs,_ | .sl _,_,_,hs,_ | .ptr _,_,_,hs,_=>by simp [A1v] at hs
theorem mG (hS:∀ b,S b → S' b ∧ w'.heap[b]? = w.heap[b]?):∀ {p:List PS} {t:Ty} {f:Fl} {x:t.D} {d d':Dat} {f2:Fl} {x2:t.D} {k k':Key} {L L':Loc} {c cp:List Value},
  xA p t f x = some d → d.f.base ≠ .gone → inB p t x → zF w t.size L = some c → uH w t L p = some (d.t,L') → zF w d.t.size L' = some cp →
  Al3 p t f x d' = some (f2,x2) → zP S β H w k t f x c → zP S' β' H w' (k' ++ xP p) d'.t d'.f d'.x cp →
  (∀ s b,¬ xP p <+: s → β (k ++ s) = some b → β' (k' ++ s) = some b ∧ w'.heap[b]? = w.heap[b]?) → zP S' β' H w' k' t f2 x2 c
 | [],t,f,x,d,d',f2,x2,k,k',L,L',c,cp,hg,hn,hb,hc,hw,hcp,hm,hv,hd,hβ=>by
  simp only [Al3] at hm
  obtain ⟨y,hy,e⟩:=Option.map_eq_some_iff.1 hm
  simp only [Prod.mk.injEq] at e
  obtain ⟨rfl,rfl⟩:=e
  obtain ⟨rfl,rfl⟩:=vV hy
  simp only [xA,Option.some.injEq] at hg
  subst hg
  simp only [uH,Option.some.injEq,Prod.mk.injEq,true_and] at hw
  subst hw
  rw [hc] at hcp
  simp only [Option.some.injEq] at hcp
  subst hcp
  simpa [xP] using hd
 | .fst :: p,.pair a b,f,x,d,d',f2,x2,k,k',L,L',c,cp,hg,hn,hb,hc,hw,hcp,hm,hv,hd,hβ=>by
  simp only [Al3] at hm
  obtain ⟨y,hy,e⟩:=Option.map_eq_some_iff.1 hm
  obtain ⟨rfl,rfl⟩:=e
  have hparts:=vI hv
  have hc':=zZ (i:=0) (m:=a.size) hc (by simp [Ty.size])
  have hv1:=hparts.1
  rw [nM] at hv1
  simp only [uH,wA] at hw
  simp only [xA] at hg
  refine jG (vZ hv) (qN.2 ⟨?_,?_⟩)
  ·rw [nM]
   exact mG hS (k:=k ++ [0]) (k':=k' ++ [0]) hg hn (by simpa [inB] using hb) hc' hw hcp hy hv1 (by simpa [xP] using hd) (fun s b hs hbb=>by
    have:=hβ (0 :: s) b (by simp only [xP,List.cons_prefix_cons,true_and];exact hs) (by simpa using hbb)
    simpa using this)
  ·exact zL hS (fun s b hbb=>by
    have:=hβ (1 :: s) b (by simp [xP]) (by simpa using hbb)
    simpa using this) hparts.2
 | .snd :: p,.pair a b,f,x,d,d',f2,x2,k,k',L,L',c,cp,hg,hn,hb,hc,hw,hcp,hm,hv,hd,hβ=>by
  simp only [Al3] at hm
  obtain ⟨y,hy,e⟩:=Option.map_eq_some_iff.1 hm
  obtain ⟨rfl,rfl⟩:=e
  have hparts:=vI hv
  have hlen:=kL hc
  simp only [Ty.size] at hlen
  have hc':=zZ (i:=a.size) (m:=b.size) hc (by simp [Ty.size])
  have hv1:=hparts.2
  rw [nK hlen] at hv1
  simp only [uH,wA] at hw
  simp only [xA] at hg
  refine jG (vZ hv) (qN.2 ⟨?_,?_⟩)
  ·exact zL hS (fun s b hbb=>by
    have:=hβ (0 :: s) b (by simp [xP]) (by simpa using hbb)
    simpa using this) hparts.1
  ·rw [nK hlen]
   exact mG hS (k:=k ++ [1]) (k':=k' ++ [1]) hg hn (by simpa [inB] using hb) hc' hw hcp hy hv1 (by simpa [xP] using hd) (fun s b hs hbb=>by
    have:=hβ (1 :: s) b (by simp only [xP,List.cons_prefix_cons,true_and];exact hs) (by simpa using hbb)
    simpa using this)
 | .idx i :: p,.arr n t,f,x,d,d',f2,x2,k,k',L,L',c,cp,hg,hn,hb,hc,hw,hcp,hm,hv,hd,hβ=>by
  simp only [Al3] at hm
  simp only [inB] at hb
  obtain ⟨hi,hb⟩:=hb
  obtain ⟨y,hy,hm⟩:=Option.bind_eq_some_iff.1 hm
  split at hm
  ·rename_i hwh
   simp only [Bool.and_eq_true,decide_eq_true_eq] at hwh
   obtain ⟨hwh,hye⟩:=hwh
   simp only [Option.some.injEq,Prod.mk.injEq] at hm
   obtain ⟨rfl,rfl⟩:=hm
   have hne:f.a.base ≠ .gone:=fun e=>by have:=rO hwh;rw [e] at this;simp [Fl.whole] at this
   obtain ⟨hx,hcl,hel⟩:=iI hne hv
   have hmul:(i + 1) * t.size ≤ n * t.size:=Nat.mul_le_mul_right _ hi
   rw [Nat.add_mul] at hmul
   have hc':=zZ (i:=i * t.size) (m:=t.size) hc (by simp only [Ty.size];omega)
   have hv1:=hel i _ (qM (z:=t.dflt) (by omega))
   simp only [uH,wA,hi,if_true] at hw
   simp only [xA] at hg
   refine jG (vZ hv) (AJ5.2 ⟨(List.length_set (as:=(x:List t.D))).trans hx,hcl,fun j z hz=>?_⟩)
   rcases A1h hz with ⟨rfl,_,rfl⟩ | ⟨hj,hz⟩
   ·rw [← hye]
    exact mG hS (k:=k ++ [j]) (k':=k' ++ [j]) hg hn hb hc' hw hcp hy hv1 (by simpa [xP] using hd) (fun s b hs hbb=>by
     have:=hβ (j :: s) b (by simp only [xP,List.cons_prefix_cons,true_and];exact hs) (by simpa using hbb)
     simpa using this)
   ·exact zL hS (fun s b hbb=>by
     have:=hβ (j :: s) b (by simp only [xP,List.cons_prefix_cons];exact fun h=>hj h.1.symm) (by simpa using hbb)
     simpa using this) (hel j z hz)
  ·cases hm
 | .der :: p,.ptr t,f,x,d,d',f2,x2,k,k',L,L',c,cp,hg,hn,hb,hc,hw,hcp,hm,hv,hd,hβ=>by
  have core:∀ {e:Fl} {y:Fl × t.D},f.base = .own e → Al3 p t e x d' = some y → ∀ {ff:Fl},ff.base = .own y.1 → (∀ q ∈ ff.pins,q ∈ f.pins) → zP S' β' H w' k' (.ptr t) ff y.2 c:=by
   intro e y hf hy ff hff hpin
   have hpins:=vZ hv
   simp only [zP] at hv ⊢
   refine ⟨fun q hq=>hpins q (hpin q hq),?_⟩
   have hv:=hv.2
   rw [hf] at hv
   rw [hff]
   obtain ⟨b,cs,rfl,hk,hB,hz,hv⟩:=hv
   have hself:=hβ [] b (by simp [xP]) (by simpa using hk)
   simp only [List.append_nil] at hself
   have hge:f.e = e:=by rw [oY,hf];rfl
   simp only [xA,hge] at hg
   have hc1:zF w 1 L = some [.pointer (some ⟨b,0,none⟩)]:=hc
   simp only [uH,wA,hc1] at hw
   have hcell:zF w t.size (.mem b 0) = some cs.toList:=by
    rw [zM hB.blk (by omega),← hz,← Array.length_toList,bH]
   refine ⟨b,cs,rfl,hself.1,hB.same hself.2,hz,?_⟩
   exact mG hS (k:=k ++ [0]) (k':=k' ++ [0]) hg hn (by simpa [inB] using hb) hcell hw hcp hy hv (by simpa [xP] using hd) (fun s b hs hbb=>by
    have:=hβ (0 :: s) b (by simp only [xP,List.cons_prefix_cons,true_and];exact hs) (by simpa using hbb)
    simpa using this)
  cases f with
  | own e=>
   simp only [Al3] at hm
   obtain ⟨y,hy,e1⟩:=Option.map_eq_some_iff.1 hm
   obtain ⟨rfl,rfl⟩:=e1
   exact core rfl hy rfl (by simp [Fl.pins])
  | pin q g=>
   cases g with
   | own e=>
    simp only [Al3] at hm
    obtain ⟨y,hy,e1⟩:=Option.map_eq_some_iff.1 hm
    obtain ⟨rfl,rfl⟩:=e1
    exact core rfl hy rfl (by simp [Fl.pins])
   | _=>simp [Al3] at hm
  | _=>simp [Al3] at hm
 | .elm i :: p,.sl t,f,x,d,d',f2,x2,k,k',L,L',c,cp,hg,hn,hb,hc,hw,hcp,hm,hv,hd,hβ=>by
  simp only [inB] at hb
  obtain ⟨hi,hb⟩:=hb
  have core:∀ {e:Fl} {y:Fl × t.D},f.base = .own e → Al3 p t e (List.getD x i t.dflt) d' = some y → y.1 = e → ∀ {ff:Fl},ff.base = .own e → (∀ q ∈ ff.pins,q ∈ f.pins) → zP S' β' H w' k' (.sl t) ff (List.set x i y.2) c:=by
   intro e y hf hy hye ff hff hpin
   have hpins:=vZ hv
   simp only [zP] at hv ⊢
   refine ⟨fun q hq=>hpins q (hpin q hq),?_⟩
   have hv:=hv.2
   rw [hf] at hv
   rw [hff]
   obtain ⟨ad,cap,rfl,hlc,hv⟩:=hv
   rcases hv with hcap | ⟨b,o,cs,rfl,hk,hB,hz,hv⟩
   ·omega
   have hself:=hβ [] b (by simp [xP]) (by simpa using hk)
   simp only [List.append_nil] at hself
   have hge:f.e = e:=by rw [oY,hf];rfl
   simp only [xA,hge] at hg
   have hc1:zF w 1 L = some [.slice (some ⟨b,o,none⟩) (List.length x) cap]:=hc
   simp only [uH,wA,hc1,hi,if_true] at hw
   have hmul:(i + 1) * t.size ≤ cap * t.size:=Nat.mul_le_mul_right _ (by omega)
   rw [Nat.add_mul] at hmul
   have hcell:zF w t.size (.mem b (o + i * t.size)) = some (win cs.toList (o + i * t.size) t.size):=zM hB.blk (by omega)
   have hlen:(List.set x i y.2).length = List.length x:=List.length_set (as:=(x:List t.D))
   refine ⟨_,cap,by rw [hlen],by rw [hlen];exact hlc,.inr ⟨b,o,cs,rfl,hself.1,hB.same hself.2,hz,fun j z hzj=>?_⟩⟩
   rcases A1h hzj with ⟨rfl,_,rfl⟩ | ⟨hj,hzj⟩
   ·rw [← hye]
    have hvi:=hv j _ (qM (z:=t.dflt) hi)
    rw [← hye] at hvi hg hy
    exact mG hS (k:=k ++ [j]) (k':=k' ++ [j]) hg hn hb hcell hw hcp hy hvi (by simpa [xP] using hd) (fun s b hs hbb=>by
     have:=hβ (j :: s) b (by simp only [xP,List.cons_prefix_cons,true_and];exact hs) (by simpa using hbb)
     simpa using this)
   ·exact zL hS (fun s b hbb=>by
     have:=hβ (j :: s) b (by simp only [xP,List.cons_prefix_cons];exact fun h=>hj h.1.symm) (by simpa using hbb)
     simpa using this) (hv j z hzj)
  cases f with
  | own e=>
   simp only [Al3] at hm
   obtain ⟨y,hy,e1⟩:=Option.bind_eq_some_iff.1 hm
   split at e1
   ·rename_i hye
    simp only [Option.some.injEq,Prod.mk.injEq] at e1
    obtain ⟨rfl,rfl⟩:=e1
    exact core rfl hy hye rfl (by simp [Fl.pins])
   ·cases e1
  | pin q g=>
   cases g with
   | own e=>
    simp only [Al3] at hm
    obtain ⟨y,hy,e1⟩:=Option.bind_eq_some_iff.1 hm
    split at e1
    ·rename_i hye
     simp only [Option.some.injEq,Prod.mk.injEq] at e1
     obtain ⟨rfl,rfl⟩:=e1
     exact core rfl hy hye rfl (by simp [Fl.pins])
    ·cases e1
   | _=>simp [Al3] at hm
  | _=>simp [Al3] at hm
end
section
variable {P:Program} {H:Nat → Option (List Value)} {N:Nat} {g g' σ:yB} {V V':Nat → Option Value} {w w':World} {S S':Nat → Prop} {β β':Key → Option Nat} {a:Act} {o:Oper}
variable {E:Env} {gv:yB} {us:List Up}
theorem A3n {c:Call} {x y:Operand} {t t':TypeId} {val:Value} (ho:o.op = .call c) (hcal:c.callee = .builtin .copy) (hargs:c.args = #[x,y]) (hts:c.argTypes = #[t,t'])
  (hr:(Builtin.copy_ #[t,t'] o.type #[a.eval x,a.eval y]).run P w = .ok val w'):(execOp a.eval o).run P w = .ok (.value val) w':=
 fV ho hcal (s:=Builtin.copy_ #[t,t'] o.type #[a.eval x,a.eval y]) (by rw [hargs,hts,show Array.map a.eval #[x,y] = #[a.eval x,a.eval y] by simp];rfl) hr
theorem A6w {t t' ty e:TypeId} {τ:Ty} {z:Value} {len cap n cap2:Nat} {base ad2:Option Addr} {cy:List Value} (h:SlOK E t e τ z) (hn:n ≤ len)
  (hl:∀ w,(Builtin.firstCells τ.size n (.slice ad2 n cap2)).run E.P w = (Builtin.firstCells τ.size n (.slice ad2 n cap2)).run E.P w) (hf:(Builtin.firstCells τ.size n (.slice ad2 n cap2)).run E.P w = .ok cy.toArray w)
  (hst:∀ a,base = some a → (storeCells a cy 0).run E.P w = .ok () w') (hno:base = none → w' = w):
  (Builtin.copy_ #[t,t'] ty #[.slice base len cap,.slice ad2 n cap2]).run E.P w = .ok (.int .i64 n) w':=by
 have hmin:Nat.min n len = n:=Nat.min_eq_left hn
 unfold Builtin.copy_
 simp only [List.getElem?_toArray,List.getElem?_cons_zero,List.getElem?_cons_succ,Sem.run_bind,zC h.und,Result.andThen_ok,Sem.run_pure,Builtin.lenOf,tT h.elem,hmin,hf]
 cases base with
 | none=>simp [hno rfl,goInt]
 | some a=>simp [hst a rfl,goInt]
theorem A9N {τ:Ty} {xs ys:List τ.D} (h:ys.length ≤ xs.length):(A4I τ ys xs).length = xs.length:=by
 unfold A4I;rw [List.length_append,List.length_drop];omega
theorem BM0 {τ:Ty} {xs ys:List τ.D} {i:Nat} {v:τ.D} (h:nth (A4I τ ys xs) i = some v) (hl:ys.length ≤ xs.length):(i < ys.length ∧ nth ys i = some v) ∨ (ys.length ≤ i ∧ nth xs i = some v):=by
 unfold nth A4I at *
 by_cases hi:i < ys.length
 ·rw [List.getElem?_append_left hi] at h;exact .inl ⟨hi,h⟩
 ·rw [List.getElem?_append_right (by omega),List.getElem?_drop] at h
  rw [show ys.length + (i - ys.length) = i by omega] at h
  exact .inr ⟨by omega,h⟩
theorem A4f {t t':TypeId} {x y:Operand} {c:Call} (hc:Ctx E.P H S β a w o g) (hs:Sub gv g) (ho:o.op = .call c) (hcal:c.callee = .builtin .copy) (hargs:c.args = #[x,y]) (hts:c.argTypes = #[t,t'])
  (hk:A7K gv o (E.sl t) x y some = some us):yM E.P H S β a w o (g.ups us):=by
 unfold A7K at hk
 split at hk
 ·rename_i τ q τ2 ys f2 ht hq hd
  obtain ⟨τ3,e0,z0,heq,hok⟩:=A6o ht
  simp only [Ty.sl.injEq] at heq
  subst heq
  split at hk
  ·rename_i e he
   split at hk
   ·rename_i τ' xs hg
    split at hk
    ·rename_i xs1 ys1 hcx hcy
     split at hk
     ·rename_i z hm
      split at hk
      ·rename_i hsc
       simp only [Bool.cond_eq_ite] at hk
       split at hk
       ·rename_i hle
        have hle:List.length ys1 ≤ List.length xs1:=Nat.le_of_ble_eq_true hle
        obtain ⟨hex,hx2⟩:=vV hcx
        cases hex
        have hx2:xs1 = xs:=hx2
        subst hx2
        obtain ⟨hey,hy2⟩:=vV hcy
        cases hey
        have hy2:ys1 = ys:=hy2
        subst hy2
        have hat:atP gv q.1 q.2 = some ⟨.sl τ,xs1,.own .sh⟩:=by unfold atP;rw [he];exact hg
        obtain ⟨hq',hat',hr⟩:=AJ1 hs hq hat
        obtain ⟨e1,cr,L,cc,he1,hg1,hb1,hV1,hl1,hvr,hw1,hcc1,hvp,hxv⟩:=AC4 hc.rel hq' hat' (by simp [Fl.base])
        have hee:e1 = e:=by
         rw [hr,he] at he1
         simpa using he1.symm
        subst hee
        have hvp0:=hvp
        simp only [zP,Fl.base] at hvp0
        obtain ⟨_,ad,cap,rfl,hlc,hvp1⟩:=hvp0
        have exv:a.eval x = .slice ad (List.length xs1) cap:=zJ hxv
        obtain ⟨cyv,hyv,hry⟩:=rJ hc.rel (tQ hs hd)
        obtain ⟨ad2,cap2,cy,hcyv,hel,hfirst⟩:=A5n hry
        rw [hcyv] at hyv
        have eyv:a.eval y = .slice ad2 (List.length ys1) cap2:=zJ hyv
        have hqN:=hc.dead.lt (i:=q.1) (by rw [he1];simp)
        have hcells:zF w e1.t.size (.reg cr) = some cr:=by simp [zF,hl1]
        have fin:∀ {w':World},(Builtin.copy_ #[t,t'] o.type #[a.eval x,a.eval y]).run E.P w = .ok (.int .i64 (List.length ys1)) w' → Sane w' S β → (∀ b,S b → w'.heap[b]? = w.heap[b]?) →
          (∀ key b,β key = some b → key ≠ q.1 :: xP q.2 → w'.heap[b]? = w.heap[b]?) → Step w S β w' S β →
          zP S β H w' (q.1 :: xP q.2) (.sl τ) (.own .sh) (A4I τ ys1 xs1) [.slice ad (List.length xs1) cap] → yM E.P H S β a w o (g.ups us):=by
         intro w' hrun hsane hS hβ hst hnew K Q hK
         have hroot:zP S β H w' [q.1] e1.t z.1 z.2 cr:=
          mG (S:=S) (β:=β) (fun b hb=>⟨hb,hS b hb⟩) (k:=[q.1]) (k':=[q.1]) hg1 (by simp [Fl.base]) hb1 hcells hw1 hcc1 hm hvr hnew (fun s b hp hb=>⟨hb,hβ _ b hb (fun e=>by
           simp only [List.cons_append,List.nil_append,List.cons.injEq,true_and] at e
           exact hp (e ▸ List.prefix_refl _))⟩)
         have hrel:Rel H a.tmps.size (g.up (.mod q.1 (.dat ⟨e1.t,z.2,z.1⟩))) (oR a) w' S β:=
          hc.rel.mod he1 rfl hsane (fun b hb=>⟨hb,hS b hb⟩) (fun j s b hj _ hb=>⟨hb,hβ _ b hb (fun e=>hj (by simp only [List.cons.injEq] at e;exact e.1))⟩) ⟨cr,hroot,hV1⟩
         have hD1:yK a.tmps.size (g.up (.mod q.1 (.dat ⟨e1.t,z.2,z.1⟩))):=hc.dead.up hqN
         split at hk
         ·rename_i d hdst
          split at hk
          ·cases hk
          ·simp only [Option.some.injEq] at hk;rw [← hk] at hK
           have hdN:=xS hc.opIn hdst
           refine tX (A3n ho hcal hargs hts hrun) (hK _ _ S β vC yW ?_ hst)
           rw [hdst,uF hdN]
           exact hrel.finish (fun _ _=>rfl) hD1 (fun _ _=>rfl) hdN hsane (fun b hb=>⟨hb,rfl⟩) (fun _ _ _ _ _ hb=>⟨hb,rfl⟩) BX0
         ·rename_i hdst
          simp only [Option.some.injEq] at hk;rw [← hk] at hK
          refine tX (A3n ho hcal hargs hts hrun) (hK _ _ S β vC yW ?_ hst)
          rw [hdst]
          exact hrel
        rcases hvp1 with hcap | ⟨b,oo,cs,rfl,hkb,hob,hz,helx⟩
        ·
         have hx0:xs1 = []:=List.length_eq_zero_iff.1 (by omega)
         subst hx0
         have hy0:ys1 = []:=List.length_eq_zero_iff.1 (by simpa using hle)
         subst hy0
         have hcy0:cy = []:=List.length_eq_zero_iff.1 (by have:=hel.len;simpa using this)
         refine fin (w':=w) (by rw [exv,eyv];exact A6w hok (Nat.le_refl _) (fun _=>rfl) (hfirst w rfl) (fun a _=>by rw [hcy0];simp [storeCells]) (fun _=>rfl)) hc.rel.sane (fun _ _=>rfl) (fun _ _ _ _=>rfl) .refl ?_
         exact hvp
        ·obtain ⟨el,fz,hbl,hf⟩:=hob
         have hlz:List.length ys1 * τ.size ≤ List.length xs1 * τ.size:=Nat.mul_le_mul_right _ hle
         have hlz2:List.length xs1 * τ.size ≤ cap * τ.size:=Nat.mul_le_mul_right _ hlc
         have hcl:cy.length = List.length ys1 * τ.size:=hel.len
         have hle2:oo + cy.length ≤ cs.size:=by omega
         obtain ⟨w',cs',k1,k2,k3,k4,k5,k6⟩:=mH (P:=E.P) (vs:=cy) (i:=0) (o:=oo) hbl (fun j hj=>⟨by omega,hf.1 _ (by omega)⟩) hel.one
         rw [Nat.add_zero] at k3
         have hchg:Chg w w' b oo cy:=⟨k4,⟨cs,el,fz,cs',hbl,k2,k3,hle2⟩,k6⟩
         have hsz:cs'.size = cs.size:=by
          have:=congrArg List.length k3
          rw [iR (by simpa using hle2)] at this
          simpa using this
         have hne:∀ b',S b' → b' ≠ b:=fun b' hb' e=>hc.rel.sane.sep _ _ hkb (e ▸ hb')
         refine fin (w':=w') (by rw [exv,eyv];exact A6w hok hle (fun _=>rfl) (hfirst w rfl) (fun a' ha'=>by simp only [Option.some.injEq] at ha';subst ha';exact k1) (fun h=>by cases h))
          ⟨hc.rel.sane.inj,hc.rel.sane.sep,fun k b hk=>by rw [k5];exact hc.rel.sane.live k b hk,fun b hk=>by rw [k5];exact hc.rel.sane.liveS b hk,hc.rel.sane.tabs fun b' hb=>⟨hb,k4 b' (hne b' hb)⟩⟩
          (fun b' hb'=>k4 b' (hne b' hb')) (fun key b' hb' hkey=>k4 b' (fun e=>hkey (hc.rel.sane.inj _ _ _ (e ▸ hb') hkb))) (Step.store hkb hchg k5) ?_
         have hlen:List.length (A4I τ ys1 xs1) = List.length xs1:=by
          exact A9N hle
         simp only [zP,Fl.base]
         refine ⟨by simp [nQ,Fl.pins],_,cap,by rw [hlen],by rw [hlen];exact hlc,.inr ⟨b,oo,cs',rfl,hkb,⟨el,fz,k2,by rw [hsz];exact hf⟩,by rw [hsz];exact hz,fun i v hi=>?_⟩⟩
         rw [yQ,k3]
         rcases BM0 hi hle with ⟨hlt,hi⟩ | ⟨hge,hi⟩
         ·have hlt2:(i + 1) * τ.size ≤ List.length ys1 * τ.size:=Nat.mul_le_mul_right _ hlt
          rw [Nat.add_mul,Nat.one_mul] at hlt2
          rw [← pI (n:=cy.length) (by omega),iA (by simpa using hle2)]
          exact aV hsc (hel.get i v hi)
         ·have hge2:List.length ys1 * τ.size ≤ i * τ.size:=Nat.mul_le_mul_right _ hge
          rw [uI (by simpa using hle2) (.inr (by omega))]
          have:=helx i v hi
          rw [yQ] at this
          exact aV hsc this
       ·cases hk
      ·cases hk
     ·cases hk
    ·cases hk
   ·cases hk
  ·cases hk
 ·cases hk
theorem A6s {ty:TypeId → Option Ty}:∀ {i:Nat} {fs:List Field} {off:Nat} {τ:Ty} {y:τ.D} {c:List Value} {e:Dat},lF ty fs off = some τ → Rd S w τ y c → xA (yC i) τ .sh y = some e →
  ∃ fl,fs[i]? = some fl ∧ ty fl.type = some e.t ∧ off ≤ fl.offset ∧ fl.offset - off + e.t.size ≤ c.length ∧ Rd S w e.t e.x (win c (fl.offset - off) e.t.size) ∧ e.f = .sh
 | i,[],off,τ,y,c,e,h,hr,hg=>by
  simp only [lF,Option.some.injEq] at h;subst h
  cases i <;> simp [yC,xA] at hg
 | i,fl :: fs,off,τ,y,c,e,h,hr,hg=>by
  simp only [lF] at h
  split at h
  ·rename_i a ha
   split at h
   ·rename_i ho
    simp only [Nat.beq_eq] at ho
    simp only [Option.map_eq_some_iff] at h
    obtain ⟨τ',h,rfl⟩:=h
    have hlen:=sW hr
    simp only [Rd] at hr
    have hl1:=sW hr.1
    have hl2:=sW hr.2
    rw [List.length_take] at hl1
    rw [List.length_drop] at hl2
    cases i with
    | zero=>
     simp only [yC,xA,Option.some.injEq] at hg
     subst hg
     refine ⟨fl,rfl,ha,by omega,by rw [ho];simp only [Nat.sub_self,Nat.zero_add];omega,?_,rfl⟩
     rw [ho,Nat.sub_self]
     simpa [win] using hr.1
    | succ i=>
     simp only [yC,xA] at hg
     obtain ⟨fl',h1,h2,h3,h4,h5,h6⟩:=A6s h hr.2 hg
     rw [List.length_drop] at h4
     refine ⟨fl',by simpa using h1,h2,by omega,by omega,?_,h6⟩
     have:win (c.drop a.size) (fl'.offset - (off + a.size)) e.t.size = win c (fl'.offset - off) e.t.size:=by
      unfold win
      rw [List.drop_drop]
      congr 2
      omega
     rw [← this];exact h5
   ·cases h
  ·cases h
theorem A27 {t:TypeId} {x:Operand} {i:Nat} (hc:Ctx E.P H S β a w o g) (hs:Sub gv g) (ho:o.op = .field t x i)
  (hk:Ay5 gv o (E.ty t) x i some = some us):yM E.P H S β a w o (g.ups us):=by
 unfold Ay5 at hk
 split at hk
 ·rename_i ta tb y hx
  split at hk
  ·rename_i ht
   split at hk
   ·rename_i e hg
    split at hk
    ·obtain ⟨fs,hfs,hch⟩:=A51 (ht:tyN E.P (7 + 1) t = _)
     have hr:∃ c,evl (oR a) x = some (yA (.pair ta tb) c) ∧ Rd S w (.pair ta tb) y c:=by
      rcases mZ hc.rel (hs.sv hx (by simp)) with ⟨s,rfl,hs'⟩ | ⟨_,c,hcc,hr⟩
      ·obtain ⟨c,hv,hV⟩:=hc.rel.dat hs'
       exact ⟨c,hV,yQ.1 hv⟩
      ·exact ⟨c,hcc,hr⟩
     obtain ⟨c,hcv,hr⟩:=hr
     have ex:a.eval x = .agg c.toArray:=zJ hcv
     obtain ⟨fl,h1,h2,_,h4,h5,h6⟩:=A6s hch hr hg
     rw [Nat.sub_zero] at h4 h5
     obtain ⟨te,xe,fe⟩:=e
     simp only at h6 h5 h4 h2
     subst h6
     refine DV.look (d:=⟨te,xe,.sh⟩) ⟨rfl,_,h5,rfl⟩ hc.rel hc.dead hc.opIn hk ?_
     have hf':fs[i]? = some fl:=by simpa using h1
     have hrun:(Instr.field t (.agg c.toArray) i).run E.P w = .ok (yA te (win c fl.offset te.size)) w:=by
      simp only [Instr.field,Sem.run_bind,zC hfs,Result.andThen_ok,hf',asAgg,Sem.run_pure,Al8 (d:=6) h2 h4]
     simp only [execOp,ho,ex,Sem.run_bind,hrun,Result.andThen_ok,Sem.run_pure]
    ·cases hk
   ·cases hk
  ·cases hk
 ·cases hk
end
end Go.Rf

end
section
namespace Go.Rf
set_option linter.unusedSectionVars false
variable [T:Laid]
section
variable {P:Program} {H:Nat → Option (List Value)} {N:Nat} {g g' σ:yB} {V V':Nat → Option Value} {w w':World} {S S':Nat → Prop} {β β':Key → Option Nat} {a:Act} {o:Oper}
variable {E:Env} {gv:yB} {us:List Up}
theorem A0I {α:Type} {xs:Array α} {x:α} (h:xs.toList = [x]):xs = #[x]:=Array.toList_inj.1 h
theorem AM7 {α:Type} {xs:Array α} {x y:α} (h:xs.toList = [x,y]):xs = #[x,y]:=Array.toList_inj.1 h
theorem Av5 {b:Builtin} {c:Call} (hc:Ctx E.P H S β a w o g) (hs:Sub gv g) (hm:o.op = .call c) (hcal:c.callee = .builtin b)
  (hk:AK4 E gv o b c some = some us):yM E.P H S β a w o (g.ups us):=by
 unfold AK4 at hk
 split at hk
 ·rename_i x t h1 h2
  exact A72 (ty:=o.type) hc hs hm hcal (A0I h1) (A0I h2) hk
 ·rename_i x y t t' h1 h2
  exact A1T hc hs hm hcal (AM7 h1) (AM7 h2) hk
 ·exact A7r hc hs hm hcal rfl hk
 ·rename_i x y t t' h1 h2
  exact A4f hc hs hm hcal (AM7 h1) (AM7 h2) hk
 ·cases hk
theorem BE7 {R:Run E} {mv:Bool} (hc:Ctx E.P H S β a w o g) (hs:Sub gv g)
  (hcall:∀ c f,o.op = .call c → c.callee = .value (.func f) → Ai7 E R gv o f c.args.toList some = some us → yM E.P H S β a w o (g.ups us))
  (hcallv:∀ c s v f,o.op = .call c → c.callee = .value (.tmp s) → yV gv (gv s).sv = some ⟨.fn,v,f⟩ → AD3 E R gv o v c.args.toList c.argTypes.toList some = some us → yM E.P H S β a w o (g.ups us))
  (hk:opK E R mv gv o some = some us):yM E.P H S β a w o (g.ups us):=by
 unfold opK at hk
 split at hk
 ·rename_i hm;exact A4g hc hs hm hk
 ·rename_i hm;exact A1u hc hs hm hk
 ·rename_i hm;exact A5d hc hs hm hk
 ·rename_i hm;exact A2A hc hm hk
 ·rename_i hm;exact A7Y hc hs hm hk
 ·rename_i hm;exact A3I hc hs hm hk
 ·rename_i hm;exact Ac1 hc hs hm hk
 ·rename_i hm;exact A5i hc hs hm hk
 ·rename_i hm;exact A2R hc hs hm hk
 ·rename_i hm;exact A8N hc hs hm hk
 ·rename_i hm
  split at hk
  ·rename_i hy;exact A61 hc hs hm hy hk
  ·exact A7G hc hs hm hk
 ·rename_i hm;exact A9d hc hs hm hk
 ·rename_i s t x hm
  by_cases hb:E.ty s = some .str ∧ E.ty t = some (.sl (.int .u8))
  ·exact Av4 hc hs hm hb.1 hb.2 hk
  ·exact A5C hc hs hm hb hk
 ·rename_i h first caps hm
  split at hk
  ·rename_i he
   have:first = #[]:=Array.toList_inj.1 (List.isEmpty_iff.1 he)
   subst this
   split at hk
   ·rename_i rs hr;exact Ar2 hc hs hm hr hk
   ·cases hk
  ·cases hk
 ·rename_i hm;exact Ai9 hc hs hm hk
 ·rename_i hm;exact A2y hc hs hm hk
 ·rename_i hm;exact Aj0 hc hs hm hk
 ·rename_i hm;exact Aj4 hc hs hm hk
 ·rename_i hm;exact A3q hc hs hm hk
 ·rename_i hm;exact Aw1 hc hs hm hk
 ·rename_i hm;exact A27 hc hs hm hk
 ·rename_i c hm
  split at hk
  ·rename_i b hcal;exact Av5 hc hs hm hcal hk
  ·rename_i f hcal;exact hcall c f hm hcal hk
  ·rename_i s hcal
   split at hk
   ·rename_i v f hd;exact hcallv c s v f hm hcal hd hk
   ·cases hk
  ·cases hk
 ·cases hk
end
end Go.Rf

end
section
namespace Go.Rf
set_option linter.unusedSectionVars false
variable [T:Laid]
variable {ρ:Type}
theorem yY {o:Oper} {us:List Up} {v:SV} {κ:List Up → Option ρ}:oV o us v κ = (oV o us v some).bind κ:=by
 unfold oV;split <;> rfl
theorem BE2 {α γ:Type} {b:Bool} {x y:Option α} {f:α → Option γ}:(cond b x y).bind f = cond b (x.bind f) (y.bind f):=by cases b <;> rfl
theorem A7j {g:yB} {mv:Bool} {o:Oper} {t:Option Ty} {x:Operand} {κ:List Up → Option ρ}:A5b g mv o t x κ = (A5b g mv o t x some).bind κ:=by
 unfold A5b;(repeat' split) <;> first | rfl | exact yY
theorem A97 {g:yB} {o:Oper} {x:Operand} {κ:List Up → Option ρ}:Bh0 g o x κ = (Bh0 g o x some).bind κ:=by
 unfold Bh0;(repeat' split) <;> first | rfl | exact yY
theorem A2w {g:yB} {mv:Bool} {o:Oper} {t:Option Ty} {x:Operand} {κ:List Up → Option ρ}:Ab6 g mv o t x κ = (Ab6 g mv o t x some).bind κ:=by
 unfold Ab6;(repeat' split) <;> first | rfl | exact yY
theorem A7m {g:yB} {o:Oper} {t:Option Ty} {x:Operand} {κ:List Up → Option ρ}:A7i g o t x κ = (A7i g o t x some).bind κ:=by
 unfold A7i;(repeat' split) <;> first | rfl | exact yY
theorem A0F {α:Type} {κ:α → Option ρ} {x:Option α}:∀ {cs:List Bool},(A5I cs x).bind κ = A5I cs (x.bind κ)
 | []=>rfl
 | b :: l=>by simp only [A5I];rw [BE2,A0F];rfl
theorem A46 {g:yB} {mv:Bool} {o:Oper} {t:Option Ty} {x y:Operand} {κ:List Up → Option ρ}:A0N g mv o t x y κ = (A0N g mv o t x y some).bind κ:=by
 unfold A0N;(repeat' split) <;> first | rfl | (rw [A0F];rfl)
theorem Ap1 {g:yB} {o:Oper} {t:Option Ty} {x:Operand} {i:Nat} {κ:List Up → Option ρ}:eS g o t x i κ = (eS g o t x i some).bind κ:=by
 unfold eS;(repeat' split) <;> first | rfl | exact yY
theorem As2 {g:yB} {o:Oper} {t:Option Ty} {x i:Operand} {κ:List Up → Option ρ}:eO g o t x i κ = (eO g o t x i some).bind κ:=by
 unfold eO;simp only [Bool.cond_eq_ite];(repeat' split) <;> first | rfl | exact yY
theorem A4x {g:yB} {o:Oper} {t:Option Ty} {x i:Operand} {κ:List Up → Option ρ}:A0P g o t x i κ = (A0P g o t x i some).bind κ:=by
 unfold A0P;simp only [Bool.cond_eq_ite];(repeat' split) <;> first | rfl | exact yY
theorem A5h {E:Env} {g:yB} {mv:Bool} {o:Oper} {t:TypeId} {ps:Array (Nat × Operand)} {κ:List Up → Option ρ}:A0S E g mv o t ps κ = (A0S E g mv o t ps some).bind κ:=by
 unfold A0S;(repeat' split) <;> first | rfl | exact yY
theorem Ai5 {E:Env} {g:yB} {mv:Bool} {o:Oper} {t:TypeId} {n:Nat} {ps:Array (Nat × Operand)} {κ:List Up → Option ρ}:iY E g mv o t n ps κ = (iY E g mv o t n ps some).bind κ:=by
 unfold iY;(repeat' split) <;> first | rfl | exact yY
theorem Am0 {E:Env} {g:yB} {mv:Bool} {o:Oper} {t:TypeId} {l c:Operand} {κ:List Up → Option ρ}:eK E g mv o t l c κ = (eK E g mv o t l c some).bind κ:=by
 unfold eK;simp only [Bool.cond_eq_ite];(repeat' split) <;> first | rfl | exact yY
theorem aU {x:Option SV} {d:Nat} {κ:Nat → Option (List Up)} {κ':List Up → Option ρ}:(AU7 x d κ).bind κ' = AU7 x d fun n=>(κ n).bind κ':=by
 unfold AU7;simp only [Bool.cond_eq_ite];(repeat' split) <;> first | rfl
theorem A36 {g:yB} {o:Oper} {t:Option Ty} {x:Operand} {lo hi:Option Operand} {κ:List Up → Option ρ}:A0Z g o t x lo hi κ = (A0Z g o t x lo hi some).bind κ:=by
 unfold A0Z
 split
 ·rw [aU];congr;funext h;rw [aU];congr;funext l
  simp only [Bool.cond_eq_ite];(repeat' split) <;> first | rfl | exact yY
 ·split
  ·split
   ·rw [aU];congr;funext h;rw [aU];congr;funext l
    simp only [Bool.cond_eq_ite];(repeat' split) <;> first | rfl | exact yY
   ·rfl
  ·rfl
 ·rfl
theorem A19 {g:yB} {o:Oper} {t t':Option Ty} {x y:Operand} {κ:List Up → Option ρ}:Aa1 g o t t' x y κ = (Aa1 g o t t' x y some).bind κ:=by
 unfold Aa1;simp only [Bool.cond_eq_ite];(repeat' split) <;> first | rfl | exact yY
theorem BF8 {g:yB} {o:Oper} {t:Option Ty} {x:Operand} {κ:List Up → Option ρ}:Bg0 g o t x κ = (Bg0 g o t x some).bind κ:=by
 unfold Bg0;(repeat' split) <;> first | rfl | exact yY
theorem A9M {g:yB} {o:Oper} {xs:List Operand} {κ:List Up → Option ρ}:Bg6 g o xs κ = (Bg6 g o xs some).bind κ:=by
 unfold Bg6;(repeat' split) <;> first | rfl | exact yY
theorem A1D {g:yB} {o:Oper} {x:Operand} {i:Nat} {κ:List Up → Option ρ}:AK6 g o x i κ = (AK6 g o x i some).bind κ:=by
 unfold AK6;(repeat' split) <;> first | rfl | exact yY
theorem A7C {g:yB} {o:Oper} {c x y:Operand} {κ:List Up → Option ρ}:A8A g o c x y κ = (A8A g o c x y some).bind κ:=by
 unfold A8A
 split
 ·rename_i t _
  cases t
  ·simp only [cond_false];split <;> first | rfl | exact yY
  ·simp only [cond_true];split <;> first | rfl | exact yY
 ·rfl
theorem A5J {E:Env} {mv:Bool} {o:Oper} {t:TypeId} {κ:List Up → Option ρ}:Ax5 E mv o t κ = (Ax5 E mv o t some).bind κ:=by
 unfold Ax5;(repeat' split) <;> first | rfl | exact yY
theorem A9z {E:Env} {g:yB} {mv:Bool} {o:Oper} {t:TypeId} {x:Operand} {κ:List Up → Option ρ}:Bg4 E g mv o t x κ = (Bg4 E g mv o t x some).bind κ:=by
 unfold Bg4;(repeat' split) <;> first | rfl | exact yY
theorem BE3 {op:BinOp} {k k':IntKind} {x y:Int} {o:Oper} {κ:List Up → Option ρ}:Bg7 op k x k' y (fun d=>oV o [] (.dat d) κ) = (Bg7 op k x k' y (fun d=>oV o [] (.dat d) some)).bind κ:=by
 unfold Bg7;simp only [Bool.cond_eq_ite];(repeat' split) <;> first | rfl | exact yY
theorem A8c {op:BinOp} {t:Option Ty} {x y:SV} {o:Oper} {κ:List Up → Option ρ}:Bg9 op t x y (fun d=>oV o [] (.dat d) κ) = (Bg9 op t x y (fun d=>oV o [] (.dat d) some)).bind κ:=by
 unfold Bg9
 split
 ·exact BE3
 ·unfold Bp4;simp only [Bool.cond_eq_ite];(repeat' split) <;> first | rfl | exact yY
 ·(repeat' split) <;> first | rfl | exact yY
 ·rfl
theorem BG2 {E:Env} {op:BinOp} {t:TypeId} {x y:SV} {o:Oper} {κ:List Up → Option ρ}:Bg2 E op t x y (fun d=>oV o [] (.dat d) κ) = (Bg2 E op t x y (fun d=>oV o [] (.dat d) some)).bind κ:=by
 unfold Bg2
 split
 ·(repeat' split) <;> first | rfl | exact yY
 ·exact A8c
theorem A93 {g:yB} {o:Oper} {op:BinOp} {t:Option Ty} {x:Operand} {κ:List Up → Option ρ}:Bg5 g o op t x κ = (Bg5 g o op t x some).bind κ:=by
 unfold Bg5
 (repeat' split) <;> first | rfl | (generalize Nat.beq _ _ = q;cases q <;> exact yY)
theorem BP1 {op:UnOp} {x:SV} {o:Oper} {κ:List Up → Option ρ}:unK op x (fun d=>oV o [] (.dat d) κ) = (unK op x (fun d=>oV o [] (.dat d) some)).bind κ:=by
 unfold unK;(repeat' split) <;> first | rfl | exact yY
theorem A8P {s t:Option Ty} {x:Option Dat} {o:Oper} {κ:List Up → Option ρ}:Av7 s t x (fun d=>oV o [] (.dat d) κ) = (Av7 s t x (fun d=>oV o [] (.dat d) some)).bind κ:=by
 unfold Av7;(repeat' split) <;> first | rfl | exact yY
theorem dL {E:Env} {R:Run E} {g:yB} {o:Oper} {f:FuncId} {xs:List Operand} {κ:List Up → Option ρ}:AR2 E R g o f xs κ = (AR2 E R g o f xs some).bind κ:=by
 unfold AR2
 split
 ·split
  ·split
   ·rw [Option.bind_assoc]
    congr
    funext x
    (repeat' split) <;> rfl
   ·rfl
  ·rfl
 ·rfl
theorem A63 {E:Env} {R:Run E} {g:yB} {o:Oper} {f:FuncId} {xs:List Operand} {κ:List Up → Option ρ}:Ai7 E R g o f xs κ = (Ai7 E R g o f xs some).bind κ:=by
 unfold Ai7
 rw [dL (κ:=fun us=>κ (softs o.dst g us)),dL (κ:=fun us=>some (softs o.dst g us)),Option.bind_assoc]
 rfl
theorem A4o {E:Env} {R:Run E} {g:yB} {o:Oper} {v:FnVal} {xs:List Operand} {ts:List TypeId} {κ:List Up → Option ρ}:AD3 E R g o v xs ts κ = (AD3 E R g o v xs ts some).bind κ:=by
 unfold AD3
 split
 ·split
  ·rw [Option.bind_assoc]
   congr
   funext x
   exact yY
  ·rfl
 ·rfl
theorem A4k {g:yB} {o:Oper} {t:Option Ty} {x:Operand} {i:Nat} {κ:List Up → Option ρ}:Ay5 g o t x i κ = (Ay5 g o t x i some).bind κ:=by
 unfold Ay5;(repeat' split) <;> first | rfl | exact yY
theorem A65 {g:yB} {o:Oper} {t:Option Ty} {x y:Operand} {κ:List Up → Option ρ}:A7K g o t x y κ = (A7K g o t x y some).bind κ:=by
 unfold A7K;simp only [Bool.cond_eq_ite];(repeat' split) <;> rfl
theorem A0o {E:Env} {g:yB} {o:Oper} {b:Builtin} {c:Call} {κ:List Up → Option ρ}:AK4 E g o b c κ = (AK4 E g o b c some).bind κ:=by
 unfold AK4
 split
 ·exact BF8
 ·exact A19
 ·exact A9M
 ·exact A65
 ·rfl
theorem AA0 {E:Env} {R:Run E} {mv:Bool} {g:yB} {o:Oper} {κ:List Up → Option ρ}:opK E R mv g o κ = (opK E R mv g o some).bind κ:=by
 unfold opK
 split
 ·exact A7j
 ·exact A2w
 ·exact A7C
 ·exact A5J
 ·exact A9z
 ·exact A5h
 ·exact Ai5
 ·exact A7m
 ·exact A46
 ·exact A97
 ·split
  ·exact A93
  ·exact BG2
 ·exact BP1
 ·exact A8P
 ·(repeat' split) <;> first | rfl | exact yY
 ·exact Am0
 ·exact A36
 ·exact Ap1
 ·exact As2
 ·exact A4x
 ·exact A1D
 ·exact A4k
 ·split
  ·exact A0o
  ·exact A63
  ·split
   ·exact A4o
   ·rfl
  ·rfl
 ·rfl
end Go.Rf

end
section
namespace Go.Rf
set_option linter.unusedSectionVars false
variable [T:Laid]
section
variable {P:Program} {H:Nat → Option (List Value)} {N:Nat} {g g' σ:yB} {V V':Nat → Option Value} {w w':World} {S S':Nat → Prop} {β β':Key → Option Nat} {a:Act} {o:Oper}
variable {E:Env} {gv:yB} {us:List Up} {ρ:Type}
theorem BD7 {l:List Slot} {i:Nat} (h:l.length ≤ i):(at? l i).sv = .dead:=by
 unfold at?;simp [List.getD,List.getElem?_eq_none h,Slot.dead]
theorem A9p {l:List Slot}:yK l.length (at? l):=fun _ hi=>BD7 hi
theorem Ad0 {l:List Slot} {u:Up}:(upL l u).length = l.length:=by simp [upL]
theorem nI:∀ {us:List Up} {l:List Slot},(iS l us).length = l.length
 | [],_=>rfl
 | u :: us,l=>by simp only [iS];rw [nI,Ad0]
theorem A9B {l:List Slot} {u:Up} {i:Nat} (hi:i < l.length):at? (upL l u) i = (yB.up (at? l) u) i:=by
 unfold at? upL
 by_cases e:i = u.slot
 ·subst e
  rw [mO]
  simp [List.getD,hi,at?]
 ·rw [qL e]
  simp [List.getD,List.getElem?_set,Ne.symm e]
theorem BA5:∀ {us:List Up} {l:List Slot} {g:yB},(∀ i,i < l.length → at? l i = g i) → ∀ i,i < l.length → at? (iS l us) i = (g.ups us) i
 | [],_,_,h=>h
 | u :: us,l,g,h=>by
  intro i hi
  simp only [iS]
  refine BA5 (g:=g.up u) (fun j hj=>?_) i (by rw [Ad0];exact hi)
  rw [Ad0] at hj
  rw [A9B hj]
  by_cases e:j = u.slot
  ·subst e;rw [mO,mO,h _ hj]
  ·rw [qL e,qL e,h j hj]
theorem A6d {l:List Slot} {fp:List Nat}:Sub (qY l fp) (at? l):=fun i=>by
 unfold qY
 by_cases h:(fp.any (Nat.beq i ·)) = true
 ·right;simp [h]
 ·left;simp [h,Slot.dead]
theorem AL4 {l:List Slot} {i:Nat} {v:SV} (h:(at? l i).sv = v):Ax0 l i v = l:=by
 unfold Ax0
 by_cases hi:i < l.length
 ·apply List.ext_getElem?
  intro j
  rw [List.getElem?_set]
  split
  ·rename_i e;subst e
   have:at? l i = l[i]:=by simp [at?,List.getD,hi]
   rw [List.getElem?_eq_getElem hi,← this,← h]
  ·rfl
 ·rw [List.set_eq_of_length_le (by omega)]
def AU1 (E:Env) (R:Run E):Prop:=∀ (H:Nat → Option (List Value)) (S:Nat → Prop) (β:Key → Option Nat) (a:Act) (w:World) (o:Oper) (g gv:yB) (us:List Up),
 Ctx E.P H S β a w o g → Sub gv g →
  (∀ c f,o.op = .call c → c.callee = .value (.func f) → Ai7 E R gv o f c.args.toList some = some us → yM E.P H S β a w o (g.ups us)) ∧
  (∀ c s v f,o.op = .call c → c.callee = .value (.tmp s) → yV gv (gv s).sv = some ⟨.fn,v,f⟩ → AD3 E R gv o v c.args.toList c.argTypes.toList some = some us → yM E.P H S β a w o (g.ups us))
theorem BC1 {R:Run E} (hR:AU1 E R) {mv:Bool} {l:List Slot} {fp:List Nat} {κ:List Up → Option ρ} {r:ρ} {K:Act → World → Prop} {Q:Exit → Act → World → Prop} (hl:l.length = a.tmps.size) (h:Rel H a.tmps.size (at? l) (oR a) w S β) (hi:opIn a.tmps.size o = true)
  (hk:opK E R mv (qY l fp) o κ = some r)
  (hK:∀ us a' w' S' β',κ us = some r → a'.tmps.size = a.tmps.size → a'.defers = a.defers → Rel H a.tmps.size (at? (iS l us)) (oR a') w' S' β' → Step w S β w' S' β' → K a' w'):o.wp E.P a w K Q:=by
 rw [AA0] at hk
 obtain ⟨us,h1,h2⟩:=Option.bind_eq_some_iff.1 hk
 have hc:Ctx E.P H S β a w o (at? l):=⟨h,hl ▸ A9p,hi⟩
 obtain ⟨c1,c2⟩:=hR H S β a w o (at? l) (qY l fp) us hc A6d
 refine BE7 hc A6d c1 c2 h1 K Q fun a' w' S' β' e1 e2 e3 e4=>hK us a' w' S' β' h2 e1 e2 (e3.fin (fun i hi=>?_) (fun i hi=>?_) (fun _ _=>rfl)) e4
 ·exact BA5 (fun _ _=>rfl) i (by omega)
 ·exact BD7 (by rw [nI];omega)
theorem Rel.unset {d:Nat} {l:List Slot} (hl:l.length = a.tmps.size) (h:Rel H a.tmps.size (at? l) (oR a) w S β) (hd:d < a.tmps.size):Rel H a.tmps.size (at? (upL l (.put d .und))) (oR (a.put (some d) undef)) w S β:=by
 rw [uF hd]
 have h1:Rel H a.tmps.size (yB.up (at? l) (.put d .und)) (upd (oR a) d undef) w S β:=
  h.put h.sane (fun b hb=>⟨hb,rfl⟩) (fun _ _ _ _ _ hb=>⟨hb,rfl⟩) (fun j hj=>by simp [upd,hj]) (by simp [pU,upd])
 refine h1.fin (fun i hi=>A9B (by omega)) (fun i hi=>BD7 (by rw [Ad0];omega)) (fun _ _=>rfl)
theorem AT1 {all:List Oper} {j g:Nat} {l:List Slot} {t:Bool} (h:Rel H N (at? l) (oR a) w S β) (hg:(all[j]?).bind Oper.dst = some g) (hv:(at? l g).sv = .dat ⟨.bool,t,.sh⟩):yielded all.toArray a.tmps j = some t:=by
 have:=Aa3 (x:=.tmp g) h (show sv (at? l) (.tmp g) = _ from hv) gY
 simp only [evl,oR] at this
 unfold yielded
 simp only [List.getElem?_toArray]
 rw [hg]
 simp [this]
theorem Ar9 {all:List Oper} {j g:Nat} {l:List Slot} (h:Rel H N (at? l) (oR a) w S β) (hg:(all[j]?).bind Oper.dst = some g) (hv:(at? l g).sv = .und):yielded all.toArray a.tmps j = none:=by
 have:=h.slots g
 rw [hv] at this
 simp only [pU,oR] at this
 unfold yielded
 simp only [List.getElem?_toArray]
 rw [hg]
 simp [this,undef]
theorem AB3 {R:Run E} (hR:AU1 E R) {mv:List Nat} {all:List Oper} {κ:List Slot → Option ρ} {r:ρ} {Q:Exit → Act → World → Prop}:∀ {os:List Oper} {i:Nat} {l:List Slot} {acc:List Rec} {a:Act} {w:World} {S:Nat → Prop} {β:Key → Option Nat},
  l.length = a.tmps.size → Rel H a.tmps.size (at? l) (oR a) w S β → (∀ o ∈ os,opIn a.tmps.size o = true) →
  eI E R mv all false os i l acc κ = some r →
  (∀ l' a' w' S' β',l'.length = a.tmps.size → κ l' = some r → a'.tmps.size = a.tmps.size → a'.defers = a.defers → Rel H a.tmps.size (at? l') (oR a') w' S' β' → Step w S β w' S' β' → Q .normal a' w') →
  wpList E.P all.toArray Q os a w
 | [],i,l,acc,a,w,S,β,hl,h,_,hk,hQ=>hQ l a w S β hl hk rfl rfl h .refl
 | o :: os,i,l,acc,a,w,S,β,hl,h,hin,hk,hQ=>by
  have hgo:∀ {gs:List Nat} {l:List Slot},l.length = a.tmps.size → Rel H a.tmps.size (at? l) (oR a) w S β →
    opK E R (mv.any (Nat.beq i ·)) (qY l (A1P o l)) o (fun us=>eI E R mv all false os (i + 1) (iS l us) (acc ++ [AW5 (mv.any (Nat.beq i ·)) gs l o us]) κ) = some r →
    Region.wanted o (yielded all.toArray a.tmps) = true → wpList E.P all.toArray Q (o :: os) a w:=by
   intro gs l hl h hk hw
   unfold wpList
   rw [if_pos hw]
   left
   refine BC1 hR hl h (hin o (by simp)) hk fun us a' w' S' β' e0 e1 e2 e3 e4=>?_
   refine AB3 hR (l:=iS l us) (by rw [nI,hl,e1]) (by rw [e1];exact e3) (fun o ho=>by rw [e1];exact hin o (by simp [ho])) e0 ?_
   intro l' a'' w'' S'' β'' f1 f2 f3 f4 f5 f6
   exact hQ l' a'' w'' S'' β'' (f1.trans e1) f2 (f3.trans e1) (f4.trans e2) (by rw [← e1];exact f5) (e4.trans f6)
  have hskip:∀ {gs:List Nat} {l:List Slot},l.length = a.tmps.size → Rel H a.tmps.size (at? l) (oR a) w S β →
    (match o.dst with
     | some d=>eI E R mv all false os (i + 1) (upL l (.put d .und)) (acc ++ [⟨gs,[d],[],[d]⟩]) κ
     | none=>eI E R mv all false os (i + 1) l (acc ++ [⟨gs,[],[],[]⟩]) κ) = some r →
    Region.wanted o (yielded all.toArray a.tmps) = false → wpList E.P all.toArray Q (o :: os) a w:=by
   intro gs l hl h hk hw
   unfold wpList
   rw [if_neg (by rw [hw];simp)]
   split at hk
   ·rename_i d hd
    have hdN:=xS (hin o (by simp)) hd
    rw [hd]
    have hs:(a.put (some d) undef).tmps.size = a.tmps.size:=vC
    refine AB3 hR (l:=upL l (.put d .und)) (by rw [Ad0,hl,hs]) (by rw [hs];exact h.unset hl hdN) (fun o ho=>by rw [hs];exact hin o (by simp [ho])) hk ?_
    intro l' a'' w'' S'' β'' f1 f2 f3 f4 f5 f6
    exact hQ l' a'' w'' S'' β'' (f1.trans hs) f2 (f3.trans hs) (f4.trans yW) (by rw [← hs];exact f5) f6
   ·rename_i hd
    rw [hd]
    exact AB3 hR hl h (fun o ho=>hin o (by simp [ho])) hk hQ
  unfold eI at hk
  simp only at hk
  split at hk
  ·rename_i hg
   exact hgo hl h hk (by simp [Region.wanted,hg])
  ·rename_i j want hg
   split at hk
   ·cases hk
   ·rename_i g hgd
    split at hk
    ·rename_i t hv
     have hy:=AT1 h hgd hv
     cases t with
     | true=>
      simp only [cond_true] at hk
      rw [AL4 hv] at hk
      split at hk
      ·rename_i hw;exact hgo hl h hk (by simp [Region.wanted,hg,hy,hw])
      ·rename_i hw;exact hskip hl h hk (by simp [Region.wanted,hg,hy];simpa using hw)
     | false=>
      simp only [cond_false] at hk
      rw [AL4 hv] at hk
      split at hk
      ·rename_i hw;exact hskip hl h hk (by simp [Region.wanted,hg,hy,hw])
      ·rename_i hw;exact hgo hl h hk (by simp [Region.wanted,hg,hy];simpa using hw)
    ·rename_i hv
     have hy:=Ar9 h hgd hv
     exact hskip hl h hk (by simp [Region.wanted,hg,hy])
    ·cases hk
end
end Go.Rf

end
section
namespace Go.Rf
set_option linter.unusedSectionVars false
variable [T:Laid]
section
variable {P:Program} {H:Nat → Option (List Value)} {N:Nat} {V V':Nat → Option Value} {w w':World} {S S':Nat → Prop} {β β':Key → Option Nat} {a:Act} {o:Oper}
theorem AW6 {keep:List Nat} {l:List Slot}:∀ {xs:List Slot} {i:Nat},(AR8 keep l xs i).length = xs.length
 | [],_=>rfl
 | x :: xs,i=>by simp [AR8,AW6]
theorem Aq3 {keep:List Nat} {l:List Slot}:∀ {xs:List Slot} {i j:Nat},j < xs.length → (AR8 keep l xs i)[j]? = some (if keep.any (Nat.beq (i + j) ·) then AZ9 l (at? xs j).sv else .dead)
 | [],_,_,h=>by simp at h
 | x :: xs,i,0,_=>by simp [AR8,at?]
 | x :: xs,i,j + 1,h=>by
  simp only [AR8,List.getElem?_cons_succ]
  rw [Aq3 (by simpa using h)]
  rw [show i + 1 + j = i + (j + 1) by omega]
  simp [at?,List.getD]
theorem gM {σ:List SV} {i:Nat}:at? (iW σ) i = (match σ[i]? with | some v=>⟨v,0,0,0⟩ | none=>Slot.dead):=by
 unfold at? iW
 rw [List.getD,List.getElem?_map]
 cases σ[i]? <;> rfl
theorem BF2 {keep:List Nat} {l:List Slot} (h:Rel H N (at? l) V w S β) (hl:l.length = N):Rel H N (at? (iW (AR8 keep l l 0))) V w S β:=by
 have back:∀ {r:Nat} {dr:Dat},(at? (iW (AR8 keep l l 0)) r).sv = .dat dr → (at? l r).sv = .dat dr:=by
  intro r dr hr
  rw [gM] at hr
  by_cases hrl:r < l.length
  ·rw [Aq3 hrl] at hr
   simp only at hr
   split at hr
   ·revert hr
    cases hv:(at? l r).sv <;> simp only [AZ9] <;> intro hr
    ·cases hr
    ·exact hr
    ·cases hr
    ·split at hr <;> cases hr
    ·split at hr <;> cases hr
    ·cases hr
    ·split at hr <;> cases hr
    ·cases hr
    ·cases hr
    ·cases hr
   ·cases hr
  ·have:(AR8 keep l l 0)[r]? = none:=List.getElem?_eq_none (by rw [AW6];omega)
   rw [this] at hr;cases hr
 refine ⟨h.sane,fun i=>?_⟩
 rw [gM]
 by_cases hil:i < l.length
 ·rw [Aq3 hil]
  simp only [Nat.zero_add]
  split
  ·have hs:=h.slots i
   cases hv:(at? l i).sv with
   | dead=>trivial
   | nils=>rw [hv] at hs;exact hs.elim
   | und=>trivial
   | unk=>rw [hv] at hs;exact hs
   | dat d=>rw [hv] at hs;exact hs
   | tup d=>rw [hv] at hs;exact hs
   | pend _ _ _ _ _ _=>trivial
   | adr r p c s=>
    rw [hv] at hs
    obtain ⟨k0,_,_,k3⟩:=hs
    simp only [AZ9]
    split
    ·rename_i hok
     exact ⟨k0,Nat.zero_le _,Nat.zero_le _,fun _ dr hdr=>k3 hok dr (back hdr)⟩
    ·trivial
   | als r p c s=>
    rw [hv] at hs
    obtain ⟨k0,_,_,k3⟩:=hs
    simp only [AZ9]
    split
    ·rename_i hok
     exact ⟨k0,Nat.zero_le _,Nat.zero_le _,fun _ dr hdr=>k3 hok dr (back hdr)⟩
    ·trivial
   | clo f rs=>
    rw [hv] at hs
    obtain ⟨k1,k2⟩:=hs
    simp only [AZ9]
    split
    ·rename_i hok
     refine ⟨fun x hx=>?_,fun _ vs hvs=>k2 (fun x hx=>?_) vs ?_⟩
     ·obtain ⟨y,hy,rfl⟩:=List.mem_map.1 hx
      exact ⟨(k1 y hy).1,Nat.zero_le _⟩
     ·have:=List.all_eq_true.1 hok x hx
      simpa [Nat.beq_eq] using this
     ·rw [← hvs,List.map_map];rfl
    ·trivial
  ·trivial
 ·have:(AR8 keep l l 0)[i]? = none:=List.getElem?_eq_none (by rw [AW6];omega)
  rw [this];trivial
structure RelS (H:Nat → Option (List Value)) (σ:List SV) (a:Act) (w:World) (S:Nat → Prop) (β:Key → Option Nat):Prop where
 len:σ.length = a.tmps.size
 rel:Rel H a.tmps.size (at? (iW σ)) (oR a) w S β
end
end Go.Rf

end
