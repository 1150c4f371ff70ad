/- An interpreter of the code over plain data, proved right against the machine: part 3. No condition. -/
import Derived.Test.YtcikhcfofnlegaaGreatRlB
import Derived.Orders
import Derived.OpenShut
import Derived.ChangeOld
import Derived.WalkKit
import Derived.ProofKit
import Derived.ShutString
import Derived.SizedLaws
import Derived.Test.YtcikhcfofnlegaaGreatRlA
set_option linter.unusedVariables false
set_option linter.unusedSimpArgs false
section
namespace Go.Rf
set_option linter.unusedSectionVars false
variable [T:Laid]
section
variable {P:Program} {H:Nat → Option (List Value)} {w w':World} {S S':Nat → Prop} {β β':Key → Option Nat} {a:Act} {o:Oper}
variable {E:Env} {ρ:Type}
def A3y:Ex → Exit
 | .nm=>.normal
 | .ex id=>.exit id
 | .ret=>.ret
def Bt3 (H:Nat → Option (List Value)) (κ:Out → Option ρ) (r:ρ) (a:Act) (w:World) (S:Nat → Prop) (β:Key → Option Nat) (Q:Exit → Act → World → Prop):Prop:=
 ∀ (o:Out) (a':Act) (w':World) (S':Nat → Prop) (β':Key → Option Nat),κ o = some r → a'.tmps.size = a.tmps.size → a'.defers = a.defers → RelS H o.σ a' w' S' β' → Step w S β w' S' β' → Q (A3y o.e) a' w'
def A1x (E:Env) (R:Run E):Prop:=∀ {ρ:Type} (H:Nat → Option (List Value)) (mv:List Nat) (ops:List Oper) (id:Nat) (l:List Slot) (a:Act) (w:World) (S:Nat → Prop) (β:Key → Option Nat) (κ:List Slot → Option ρ) (r:ρ) (Q:Exit → Act → World → Prop),
 l.length = a.tmps.size → Rel H a.tmps.size (at? l) (oR a) w S β → (∀ o ∈ ops,opIn a.tmps.size o = true) → eI E R mv ops true ops 0 l [] κ = some r →
 (∀ l' a' w' S' β',l'.length = a.tmps.size → κ l' = some r → a'.tmps.size = a.tmps.size → a'.defers = a.defers → Rel H a.tmps.size (at? l') (oR a') w' S' β' → Step w S β w' S' β' → Q .normal a' w') →
 (Code.region id ops.toArray true).wp E.P Q a w
def A5B (E:Env) (L:jU):Prop:=∀ (H:Nat → Option (List Value)) (f:FuncId) (b:Code) (σ:List SV) (o:Out) (a:Act) (w:World) (S:Nat → Prop) (β:Key → Option Nat) (Q:Exit → Act → World → Prop),
 dP a.tmps.size b = true → L f b σ = some o → RelS H σ a w S β →
 (∀ a' w' S' β',a'.tmps.size = a.tmps.size → a'.defers = a.defers → RelS H o.σ a' w' S' β' → Step w S β w' S' β' → Q (A3y o.e) a' w') → (Code.loop b).wp E.P Q a w
theorem RelS.fewer {σ σ':List SV} (hl:σ'.length = σ.length) (hf:∀ j:Nat,σ'[j]? = σ[j]? ∨ σ'[j]? = some SV.dead) (h:RelS H σ a w S β):RelS H σ' a w S β:=by
 refine ⟨by rw [hl];exact h.len,?_⟩
 refine ⟨h.rel.sane,fun i=>?_⟩
 have hs:=h.rel.slots i
 have hat:∀ j,at? (iW σ') j = at? (iW σ) j ∨ (at? (iW σ') j) = ⟨.dead,0,0,0⟩:=fun j=>by
  rw [gM,gM]
  rcases hf j with e | e
  ·left;rw [e]
  ·right;rw [e]
 have stamps:∀ j,(at? (iW σ) j).c = 0 ∧ (at? (iW σ) j).s = 0 ∧ (at? (iW σ) j).u = 0:=fun j=>by
  rw [gM];cases σ[j]? <;> exact ⟨rfl,rfl,rfl⟩
 have stamps':∀ j,(at? (iW σ') j).c = 0 ∧ (at? (iW σ') j).s = 0 ∧ (at? (iW σ') j).u = 0:=fun j=>by
  rw [gM];cases σ'[j]? <;> exact ⟨rfl,rfl,rfl⟩
 have back:∀ {j dr},(at? (iW σ') j).sv = .dat dr → at? (iW σ') j = at? (iW σ) j:=fun {j dr} hd=>by
  rcases hat j with h | h
  ·exact h
  ·rw [h] at hd;cases hd
 rcases hat i with he | he
 ·rw [he]
  cases hv:(at? (iW σ) i).sv with
  | dead=>trivial
  | nils=>rw [hv] at hs;exact hs.elim
  | und=>rw [hv] at hs;exact hs
  | unk=>rw [hv] at hs;exact hs
  | dat d=>rw [hv] at hs;exact hs
  | tup d=>rw [hv] at hs;exact hs
  | adr r p c s=>
   rw [hv] at hs
   obtain ⟨k0,k1,k2,k3⟩:=hs
   rw [(stamps r).1] at k1
   rw [(stamps r).2.1] at k2
   exact ⟨k0,by omega,by omega,fun ok dr hdr=>by
    have e:=back hdr
    rw [Sub.okB e] at ok
    rw [e] at hdr
    exact k3 ok dr hdr⟩
  | als r p c s=>
   rw [hv] at hs
   obtain ⟨k0,k1,k2,k3⟩:=hs
   rw [(stamps r).1] at k1
   rw [(stamps r).2.1] at k2
   exact ⟨k0,by omega,by omega,fun ok dr hdr=>by
    have e:=back hdr
    rw [Sub.okA e] at ok
    rw [e] at hdr
    exact k3 ok dr hdr⟩
  | pend r p c s u d=>
   rw [hv] at hs
   obtain ⟨k0,k1,k2,k3,k4⟩:=hs
   rw [(stamps r).1] at k1
   rw [(stamps r).2.1] at k2
   rw [(stamps r).2.2] at k3
   exact ⟨k0,by omega,by omega,by omega,fun ok dr hdr=>by
    have e:=back hdr
    rw [Sub.okU e] at ok
    rw [e] at hdr
    exact k4 ok dr hdr⟩
  | clo f rs=>
   rw [hv] at hs
   obtain ⟨k1,k2⟩:=hs
   refine ⟨fun x hx=>⟨(k1 x hx).1,by have:=(k1 x hx).2;rw [(stamps x.1).2.1] at this;omega⟩,fun hall vs hvs=>k2 (fun x hx=>?_) vs hvs⟩
   have:=hall x hx
   rw [(stamps' x.1).2.1] at this
   rw [(stamps x.1).2.1];exact this
 ·rw [he];trivial
theorem RelS.setdead {σ:List SV} {t:Nat} (h:RelS H σ a w S β):RelS H (σ.set t .dead) a w S β:=h.fewer (by rw [List.length_set]) fun j=>by
 rw [List.getElem?_set]
 by_cases e:t = j
 ·subst e
  by_cases ht:t < σ.length
  ·right;rw [if_pos rfl,if_pos ht]
  ·left;rw [if_pos rfl,if_neg ht,List.getElem?_eq_none (by omega)]
 ·left;rw [if_neg e]
theorem Ay0 {ks rs:List Nat}:∀ {σ:List SV} {i:Nat},(Ai0 ks rs σ i).length = σ.length
 | [],_=>rfl
 | _ :: _,_=>by simp only [Ai0,List.length_cons,Ay0]
theorem Az2 {ks rs:List Nat}:∀ {σ:List SV} {i:Nat} (j:Nat),(Ai0 ks rs σ i)[j]? = σ[j]? ∨ (Ai0 ks rs σ i)[j]? = some SV.dead
 | [],_,_=>.inl rfl
 | v :: vs,i,0=>by
  simp only [Ai0,List.getElem?_cons_zero]
  split
  ·right;rfl
  ·left;rfl
 | v :: vs,i,j + 1=>by
  simp only [Ai0,List.getElem?_cons_succ]
  exact Az2 j
theorem RelS.killS {σ:List SV} {ks:List Nat} (h:RelS H σ a w S β):RelS H (killS ks σ) a w S β:=by
 cases ks with
 | nil=>exact h
 | cons k ks=>exact h.fewer Ay0 fun j=>Az2 j
theorem RelS.afterC {keep:List Nat} {σ:List SV} {t:Nat} {x:Bool} (hx:σ.getD t .dead = .dat ⟨.bool,x,.sh⟩) (h:RelS H σ a w S β):RelS H (afterC keep t x σ) a w S β:=by
 unfold Rf.afterC
 split
 ·rw [← hx]
  have e:σ.set t (σ.getD t .dead) = σ:=by
   apply List.ext_getElem?
   intro i
   rw [List.getElem?_set]
   by_cases hi:t = i
   ·subst hi
    rw [if_pos rfl]
    by_cases ht:t < σ.length
    ·rw [if_pos ht,List.getD_eq_getElem?_getD,List.getElem?_eq_getElem ht];rfl
    ·rw [if_neg ht,List.getElem?_eq_none (by omega)]
   ·rw [if_neg hi]
  rw [e];exact h
 ·exact h.setdead
theorem mC {R:Run E} {L:jU} {f:FuncId} (hR:AU1 E R) (hD:A1x E R) (hL:A5B E L):∀ {c:Code} {σ:List SV} {κ:Out → Option ρ} {r:ρ} {Q:Exit → Act → World → Prop} {a:Act} {w:World} {S:Nat → Prop} {β:Key → Option Nat},
  dP a.tmps.size c = true → RelS H σ a w S β → evB E R L f c σ κ = some r → Bt3 H κ r a w S β Q → c.wp E.P Q a w
 | .skip,σ,κ,r,Q,a,w,S,β,_,h,he,hQ=>wp_skip (hQ ⟨.nm,σ⟩ a w S β he rfl rfl h .refl)
 | .exit id,σ,κ,r,Q,a,w,S,β,_,h,he,hQ=>wp_exit (hQ ⟨.ex id,σ⟩ a w S β he rfl rfl h .refl)
 | .ret,σ,κ,r,Q,a,w,S,β,_,h,he,hQ=>wp_ret (hQ ⟨.ret,σ⟩ a w S β he rfl rfl h .refl)
 | .seq x y,σ,κ,r,Q,a,w,S,β,hd,h,he,hQ=>by
  simp only [dP,Bool.and_eq_true] at hd
  simp only [evB] at he
  refine wp_seq (mC hR hD hL hd.1 h he fun o a' w' S' β' ho e1 e2 h' hst=>?_)
  obtain ⟨e,σ'⟩:=o
  cases e with
  | nm=>
   simp only [Bh2] at ho
   exact mC hR hD hL (by rw [e1];exact hd.2) h' ho fun o a'' w'' S'' β'' ho' f1 f2 h'' hst'=>hQ o a'' w'' S'' β'' ho' (f1.trans e1) (f2.trans e2) h'' (hst.trans hst')
  | ex id=>exact hQ ⟨.ex id,σ'⟩ a' w' S' β' ho e1 e2 h' hst
  | ret=>exact hQ ⟨.ret,σ'⟩ a' w' S' β' ho e1 e2 h' hst
 | .block id b,σ,κ,r,Q,a,w,S,β,hd,h,he,hQ=>by
  simp only [dP] at hd
  simp only [evB] at he
  refine wp_block (mC hR hD hL hd h he fun o a' w' S' β' ho e1 e2 h' hst=>?_)
  obtain ⟨e,σ'⟩:=o
  cases e with
  | nm=>exact hQ ⟨.nm,σ'⟩ a' w' S' β' ho e1 e2 h' hst
  | ex j=>
   simp only [AU5] at ho
   split at ho
   ·rename_i hj
    have hj:j = id:=by simpa [Nat.beq_eq] using hj
    subst hj
    have:=hQ ⟨.nm,σ'⟩ a' w' S' β' ho e1 e2 h' hst
    simpa [Exit.inBlock,A3y] using this
   ·rename_i hj
    have hj:¬ j = id:=by simpa [Nat.beq_eq] using hj
    have:=hQ ⟨.ex j,σ'⟩ a' w' S' β' ho e1 e2 h' hst
    simp only [Exit.inBlock,A3y]
    rw [if_neg hj];exact this
  | ret=>exact hQ ⟨.ret,σ'⟩ a' w' S' β' ho e1 e2 h' hst
 | .cond c x y,σ,κ,r,Q,a,w,S,β,hd,h,he,hQ=>by
  simp only [dP,Bool.and_eq_true] at hd
  simp only [evB] at he
  split at he
  ·rename_i t
   split at he
   ·rename_i b hb
    have hv:(at? (iW σ) t).sv = .dat ⟨.bool,b,.sh⟩:=by
     rw [gM]
     rw [List.getD] at hb
     cases hσ:σ[t]? with
     | none=>rw [hσ] at hb;cases hb
     | some v=>rw [hσ] at hb;exact hb
    have hc:=zJ (Aa3 (x:=.tmp t) h.rel (show sv (at? (iW σ)) (.tmp t) = _ from hv) gY)
    cases b with
    | true=>
     simp only [cond_true] at he
     exact wp_cond_true hc (mC hR hD hL hd.1 (h.afterC hb) he hQ)
    | false=>
     simp only [cond_false] at he
     exact wp_cond_false hc (mC hR hD hL hd.2 (h.afterC hb) he hQ)
   ·rename_i hb
    split at he
    ·obtain ⟨he1,he2⟩:=Ad8 he
     have hv:(at? (iW σ) t).sv = .unk:=by
      rw [gM]
      rw [List.getD] at hb
      cases hσ:σ[t]? with
      | none=>rw [hσ] at hb;cases hb
      | some v=>rw [hσ] at hb;exact hb
     have hs:=h.rel.slots t
     rw [hv] at hs
     obtain ⟨b,hs⟩:=hs
     have hc:a.eval (.tmp t) = .bool b:=zJ hs
     cases b with
     | true=>exact wp_cond_true hc (mC hR hD hL hd.1 h.setdead he1 hQ)
     | false=>exact wp_cond_false hc (mC hR hD hL hd.2 h.setdead he2 hQ)
    ·cases he
   ·cases he
  ·rename_i b
   cases b with
   | true=>exact wp_cond_true rfl (mC hR hD hL hd.1 h he hQ)
   | false=>exact wp_cond_false rfl (mC hR hD hL hd.2 h he hQ)
  ·cases he
 | .loop b,σ,κ,r,Q,a,w,S,β,hd,h,he,hQ=>by
  simp only [dP] at hd
  simp only [evB,A1N] at he
  obtain ⟨o,h1,h2⟩:=Option.bind_eq_some_iff.1 he
  exact hL H f b _ o a w S β Q hd h1 h.killS fun a' w' S' β' e1 e2 h' hst=>hQ o a' w' S' β' h2 e1 e2 h' hst
 | .region id ops draw,σ,κ,r,Q,a,w,S,β,hd,h,he,hQ=>by
  simp only [dP] at hd
  simp only [evB,Ar0] at he
  have hin:∀ o ∈ ops.toList,opIn a.tmps.size o = true:=fun o ho=>List.all_eq_true.1 hd o ho
  have hl:(iW σ).length = a.tmps.size:=by simp [iW,h.len]
  have fin:∀ l' a' w' S' β',l'.length = a.tmps.size → κ ⟨.nm,AR8 (E.cfg f).keep l' l' 0⟩ = some r → a'.tmps.size = a.tmps.size → a'.defers = a.defers → Rel H a.tmps.size (at? l') (oR a') w' S' β' → Step w S β w' S' β' → Q .normal a' w':=
   fun l' a' w' S' β' e0 hk e1 e2 h' hst=>hQ ⟨.nm,AR8 (E.cfg f).keep l' l' 0⟩ a' w' S' β' hk e1 e2 ⟨by rw [AW6,e0,e1],by rw [e1];exact BF2 h' e0⟩ hst
  cases draw with
  | false=>exact wp_region_list (by
    have:=AB3 hR (all:=ops.toList) hl h.rel hin he fin
    simpa using this)
  | true=>
   have:=hD H (Bs2 (E.cfg f) id) ops.toList id (iW σ) a w S β _ r Q hl h.rel hin he fin
   simpa using this
end
end Go.Rf

end
section
namespace Go.Rf
set_option linter.unusedSectionVars false
variable [T:Laid]
def Ag7 (P:Program) (c:Code) (Q:Exit → Act → World → Prop) (a:Act) (w:World):Prop:=
 ∀ (b:Frame) (k:List Item) (cs:List Frame),∃ e a' w',Q e a' w' ∧ Arrives P (lone (b.at a (.code c :: .inLoop c :: k)) cs w) b k cs e a' w'
theorem Ag7.wp {P:Program} {c:Code} {Q:Exit → Act → World → Prop} {a:Act} {w:World} (h:Ag7 P c Q a w):(Code.loop c).wp P Q a w:=by
 intro b k cs
 obtain ⟨e,a',w',hq,harr⟩:=h b k cs
 exact ⟨e,a',w',hq,.of_steps (.one step_loop) harr⟩
theorem Ag7.round {P:Program} {c:Code} {Q:Exit → Act → World → Prop} {a:Act} {w:World} (h:c.wp P (Exit.then (Ag7 P c Q) Q) a w):Ag7 P c Q a w:=by
 intro b k cs
 obtain ⟨e,a₁,w₁,hq,harr⟩:=h b (.inLoop c :: k) cs
 cases e with
 | normal=>
  obtain ⟨e₂,a₂,w₂,hq₂,harr₂⟩:=(hq:Ag7 P c Q a₁ w₁) b k cs
  exact ⟨e₂,a₂,w₂,hq₂,.of_steps (Steps.trans harr (.one step_inLoop)) harr₂⟩
 | exit id=>exact ⟨_,a₁,w₁,hq,.pass (x:=.inLoop c) rfl (fun _ _=>.inl (by simp)) harr⟩
 | goto l=>exact ⟨_,a₁,w₁,hq,.pass (x:=.inLoop c) rfl (fun _ _=>.inl (by simp)) harr⟩
 | ret=>exact ⟨_,a₁,w₁,hq,.pass (x:=.inLoop c) rfl (fun _ _=>.inl (by simp)) harr⟩
 | panic ch=>exact ⟨_,a₁,w₁,hq,.pass (x:=.inLoop c) rfl (fun _ _=>.inl (by simp)) harr⟩
 | outgrown=>exact ⟨_,a₁,w₁,hq,.pass (x:=.inLoop c) rfl (fun _ _=>.inl (by simp)) harr⟩
section
variable {E:Env} {X:(f:FuncId) → Option (List Dyn → Option (E.cfg f).rt.D)}
def At2 (E:Env) (L:jU):Prop:=∀ (H:Nat → Option (List Value)) (f:FuncId) (b:Code) (σ:List SV) (o:Out) (a:Act) (w:World) (S:Nat → Prop) (β:Key → Option Nat) (Q:Exit → Act → World → Prop),
 dP a.tmps.size b = true → L f b σ = some o → RelS H σ a w S β →
 (∀ a' w' S' β',a'.tmps.size = a.tmps.size → a'.defers = a.defers → RelS H o.σ a' w' S' β' → Step w S β w' S' β' → Q (A3y o.e) a' w') → Ag7 E.P b Q a w
theorem At2.ok {L:jU} (h:At2 E L):A5B E L:=fun H f b σ o a w S β Q hd hl hr hQ=>(h H f b σ o a w S β Q hd hl hr hQ).wp
end
end Go.Rf

end
section
namespace Go.Rf
set_option linter.unusedSectionVars false
variable [T:Laid]
section
variable {E:Env} {R:Run E} {ρ:Type}
def BC9 (all:List Oper) (o:Oper) (l:List Slot) (gs:List Nat):Prop:=
 (o.guard = none ∧ gs = []) ∨ ∃ j want g,o.guard = some (j,want) ∧ (all[j]?).bind Oper.dst = some g ∧ gs = [g] ∧ (at? l g).sv = .dat ⟨.bool,want,.sh⟩
def BC5 (E : Env) (R : Run E) (mv : List Nat) (all : List Oper) (i : Nat) (o : Oper) (l : List Slot) (us : List Up) (rc : Rec) : Prop :=
  rc.wr = us.map Up.slot ∧ (∀ x, x ∈ AR3 l us → x ∈ rc.bad) ∧
  ((opK E R (mv.any (Nat.beq i ·)) (qY l (A1P o l)) o some = some us ∧ ∃ gs, BC9 all o l gs ∧ (rc.fp = gs ++ A1P o l ∨
      (rc.fp = gs ∧ ∃ x s, o.op = .move x ∧ AT7 (at? l) (mv.any (Nat.beq i ·)) x = some s ∧ rc.sf = [s]))) ∨
   (∃ j want g, o.guard = some (j, want) ∧ (all[j]?).bind Oper.dst = some g ∧ rc.fp = [g] ∧ ((at? l g).sv = .und ∨ (at? l g).sv = .dat ⟨.bool, !want, .sh⟩) ∧
      us = (match o.dst with | some d => [.put d .und] | none => [])))
theorem A7l {E:Env} {R:Run E} {mv:List Nat} {all:List Oper} {i:Nat} {o:Oper} {l:List Slot} {us:List Up} {gs:List Nat} (h:opK E R (mv.any (Nat.beq i ·)) (qY l (A1P o l)) o some = some us) (hg:BC9 all o l gs):
  BC5 E R mv all i o l us (AW5 (mv.any (Nat.beq i ·)) gs l o us):=by
 have key:A52 (mv.any (Nat.beq i ·)) l o = [] ∨ ∃ x s,o.op = .move x ∧ AT7 (at? l) (mv.any (Nat.beq i ·)) x = some s ∧ A52 (mv.any (Nat.beq i ·)) l o = [s]:=by
  unfold A52
  split
  ·rename_i x hx
   cases e:AT7 (at? l) (mv.any (Nat.beq i ·)) x with
   | some s=>exact .inr ⟨x,s,hx,e,rfl⟩
   | none=>exact .inl rfl
  ·exact .inl rfl
 unfold AW5
 rcases key with e | ⟨x,s,h1,h2,e⟩
 ·rw [e];exact ⟨rfl,fun _ h=>h,.inl ⟨h,gs,hg,.inl rfl⟩⟩
 ·rw [e];exact ⟨rfl,fun _ h=>h,.inl ⟨h,gs,hg,.inr ⟨rfl,x,s,h1,h2,rfl⟩⟩⟩
theorem hO:∀ {us vs:List Up} {l:List Slot},iS l (us ++ vs) = iS (iS l us) vs
 | [],_,_=>rfl
 | u :: us,vs,l=>by simp only [List.cons_append,iS];exact hO
def A6b (E:Env) (R:Run E) (mv:List Nat) (all:List Oper) (κ:List Slot → Option ρ) (r:ρ) (os:List Oper) (i:Nat) (l:List Slot) (acc:List Rec):Prop:=
 ∃ (uss:List (List Up)) (rcs:List Rec),uss.length = os.length ∧ rcs.length = os.length ∧ κ (iS l uss.flatten) = some r ∧ (A3V (AV7 all) (acc ++ rcs) 0 = true ∧ BO8 (acc ++ rcs) = true) ∧ AH8 all 0 = true ∧
  ∀ (j:Nat) (o:Oper) (us:List Up) (rc:Rec),os[j]? = some o → uss[j]? = some us → rcs[j]? = some rc → BC5 E R mv all (i + j) o (iS l (uss.take j).flatten) us rc
theorem Ax6 {mv:List Nat} {all:List Oper} {κ:List Slot → Option ρ} {r:ρ}:∀ {os:List Oper} {i:Nat} {l:List Slot} {acc:List Rec},eI E R mv all true os i l acc κ = some r → A6b E R mv all κ r os i l acc
 | [],i,l,acc,h=>by
  simp only [eI,if_true] at h
  split at h
  ·rename_i hc
   simp only [Bool.and_eq_true] at hc
   exact ⟨[],[],rfl,rfl,h,⟨by simpa using hc.1.1,by simpa using hc.1.2⟩,hc.2,by simp⟩
  ·cases h
 | o :: os,i,l,acc,h=>by
  have step:∀ {us:List Up} {rc:Rec},BC5 E R mv all i o l us rc → eI E R mv all true os (i + 1) (iS l us) (acc ++ [rc]) κ = some r →
    A6b E R mv all κ r (o :: os) i l acc:=by
   intro us rc hs hk
   obtain ⟨uss,rcs,h1,h2,h3,h4,h5,h6⟩:=Ax6 hk
   refine ⟨us :: uss,rc :: rcs,by simp [h1],by simp [h2],by simpa [hO] using h3,by simpa using h4,h5,fun j o' us' rc' e1 e2 e3=>?_⟩
   cases j with
   | zero=>
    simp only [List.getElem?_cons_zero,Option.some.injEq] at e1 e2 e3
    subst e1;subst e2;subst e3
    simpa [iS] using hs
   | succ j=>
    have:=h6 j o' us' rc' (by simpa using e1) (by simpa using e2) (by simpa using e3)
    rw [show i + 1 + j = i + (j + 1) by omega] at this
    simpa [hO] using this
  have hgo:∀ {gs:List Nat},((o.guard = none ∧ gs = []) ∨ ∃ j want g,o.guard = some (j,want) ∧ (all[j]?).bind Oper.dst = some g ∧ gs = [g] ∧ (at? l g).sv = .dat ⟨.bool,want,.sh⟩) →
    opK E R (mv.any (Nat.beq i ·)) (qY l (A1P o l)) o (fun us=>eI E R mv all true os (i + 1) (iS l us) (acc ++ [AW5 (mv.any (Nat.beq i ·)) gs l o us]) κ) = some r → A6b E R mv all κ r (o :: os) i l acc:=by
   intro gs hg hk
   rw [AA0] at hk
   obtain ⟨us,e1,e2⟩:=Option.bind_eq_some_iff.1 hk
   exact step (us:=us) (rc:=AW5 (mv.any (Nat.beq i ·)) gs l o us) (A7l e1 hg) e2
  have hskip:∀ {j:Nat} {want:Bool} {g:Nat},o.guard = some (j,want) → (all[j]?).bind Oper.dst = some g → ((at? l g).sv = .und ∨ (at? l g).sv = .dat ⟨.bool,!want,.sh⟩) →
    (match o.dst with
     | some d=>eI E R mv all true os (i + 1) (upL l (.put d .und)) (acc ++ [⟨[g],[d],[],[d]⟩]) κ
     | none=>eI E R mv all true os (i + 1) l (acc ++ [⟨[g],[],[],[]⟩]) κ) = some r → A6b E R mv all κ r (o :: os) i l acc:=by
   intro j want g h1 h2 h3 hk
   have bad1:∀ {d:Nat},∀ x,x ∈ AR3 l [.put d .und] → x ∈ [d]:=fun {d} x hx=>(List.mem_filter.1 hx).1
   cases hd:o.dst with
   | some d=>
    rw [hd] at hk
    exact step (us:=[.put d .und]) (rc:=⟨[g],[d],[],[d]⟩) ⟨rfl,bad1,.inr ⟨j,want,g,h1,h2,rfl,h3,by rw [hd]⟩⟩ hk
   | none=>
    rw [hd] at hk
    exact step (us:=[]) (rc:=⟨[g],[],[],[]⟩) ⟨rfl,fun _ h=>h,.inr ⟨j,want,g,h1,h2,rfl,h3,by rw [hd]⟩⟩ hk
  unfold eI at h
  simp only at h
  split at h
  ·rename_i hg
   exact hgo (gs:=[]) (.inl ⟨hg,rfl⟩) h
  ·rename_i j want hg
   split at h
   ·cases h
   ·rename_i g hgd
    split at h
    ·rename_i t hv
     cases t with
     | true=>
      simp only [cond_true] at h
      rw [AL4 hv] at h
      cases want with
      | true=>exact hgo (gs:=[g]) (.inr ⟨j,true,g,hg,hgd,rfl,hv⟩) h
      | false=>exact hskip hg hgd (.inr hv) h
     | false=>
      simp only [cond_false] at h
      rw [AL4 hv] at h
      cases want with
      | true=>exact hskip hg hgd (.inr hv) h
      | false=>exact hgo (gs:=[g]) (.inr ⟨j,false,g,hg,hgd,rfl,hv⟩) h
    ·rename_i hv
     exact hskip hg hgd (.inl hv) h
    ·cases h
end
end Go.Rf

end
section
namespace Go.Rf
set_option linter.unusedSectionVars false
variable [T:Laid]
def bG (x:Nat) (s:Slot):List Up → Slot
 | []=>s
 | u :: us=>bG x (if x = u.slot then u.on s else s) us
theorem fD {x:Nat}:∀ {us vs:List Up} {s:Slot},bG x s (us ++ vs) = bG x (bG x s us) vs
 | [],_,_=>rfl
 | u :: us,vs,s=>by simp only [List.cons_append,bG];exact fD
theorem eT {x:Nat}:∀ {us:List Up} {s:Slot},(∀ u ∈ us,u.slot ≠ x) → bG x s us = s
 | [],_,_=>rfl
 | u :: us,s,h=>by
  simp only [bG]
  rw [if_neg (fun e=>h u (by simp) e.symm)]
  exact eT fun v hv=>h v (by simp [hv])
theorem eE {x:Nat}:∀ {us:List Up} {l:List Slot},x < l.length → at? (iS l us) x = bG x (at? l x) us
 | [],_,_=>rfl
 | u :: us,l,h=>by
  simp only [iS,bG]
  rw [eE (by rw [Ad0];exact h),A9B h]
  by_cases e:x = u.slot
  ·subst e;rw [mO,if_pos rfl]
  ·rw [qL e,if_neg e]
def sel (L:Nat → Bool):List (List Up) → Nat → List Up
 | [],_=>[]
 | us :: r,k=>(if L k then us else []) ++ sel L r (k + 1)
theorem AU8 {x:Nat} {L M:Nat → Bool}:∀ {uss:List (List Up)} {k:Nat} {s:Slot},(∀ j us,uss[j]? = some us → (∃ u ∈ us,u.slot = x) → L (k + j) = M (k + j)) → bG x s (sel L uss k) = bG x s (sel M uss k)
 | [],_,_,_=>rfl
 | us :: r,k,s,h=>by
  simp only [sel]
  rw [fD,fD]
  have h0:bG x s (if L k then us else []) = bG x s (if M k then us else []):=by
   by_cases hx:∃ u ∈ us,u.slot = x
   ·have:=h 0 us rfl hx
    rw [Nat.add_zero] at this
    rw [this]
   ·have hn:∀ u ∈ us,u.slot ≠ x:=fun u hu e=>hx ⟨u,hu,e⟩
    split <;> split <;> first | rfl | (rw [eT hn];rfl)
  rw [h0]
  exact AU8 fun j us' hj hx=>by
   have:=h (j + 1) us' (by simpa using hj) hx
   rw [show k + (j + 1) = k + 1 + j by omega] at this
   exact this
theorem A1Q {i:Nat}:∀ {uss:List (List Up)} {k:Nat},sel (fun j=>decide (j < k + i)) uss k = (uss.take i).flatten:=by
 induction i with
 | zero=>
  intro uss
  have:∀ (uss:List (List Up)) (k m:Nat),m ≤ k → sel (fun j=>decide (j < m)) uss k = []:=by
   intro uss
   induction uss with
   | nil=>intro k m _;rfl
   | cons us r ih=>intro k m h;simp only [sel];rw [if_neg (by simp;omega),ih (k + 1) m (by omega)];rfl
  intro k;simpa using this uss k k (Nat.le_refl _)
 | succ i ih=>
  intro uss k
  cases uss with
  | nil=>rfl
  | cons us r=>
   simp only [sel,List.take_succ_cons,List.flatten_cons]
   rw [if_pos (by simp)]
   have:=ih (uss:=r) (k:=k + 1)
   rw [show k + 1 + i = k + (i + 1) by omega] at this
   rw [this]
end Go.Rf

end
section
namespace Go.Rf
set_option linter.unusedSectionVars false
variable [T:Laid]
theorem AU6 {a b:List Nat}:A6y a b = true ↔ ∃ x,x ∈ a ∧ x ∈ b:=by
 simp only [A6y,List.any_eq_true,Nat.beq_eq]
 constructor
 ·rintro ⟨x,hx,y,hy,e⟩;exact ⟨x,hx,e ▸ hy⟩
 ·rintro ⟨x,hx,hy⟩;exact ⟨x,hx,x,hy,rfl⟩
def Bs0 (r q:Rec):Prop:=(∀ x,x ∈ r.wr → x ∉ q.fp) ∧ (∀ x,x ∈ r.wr → x ∉ q.wr) ∧ ∀ x,x ∈ q.wr → x ∉ r.fp
theorem A6R {b:List Nat} {r:Rec} {i:Nat}:∀ {qs:List Rec} {j:Nat},A3V.go b r i qs j = true → ∀ k q,qs[k]? = some q → Nat.testBit (b.getD (j + k) 0) i = true ∨ Bs0 r q
 | [],_,_,_,_,h=>by simp at h
 | q :: qs,j,h,k,q',hk=>by
  simp only [A3V.go,Bool.and_eq_true] at h
  cases k with
  | zero=>
   simp only [List.getElem?_cons_zero,Option.some.injEq] at hk;subst hk
   have h1:=h.1
   simp only [Bool.or_eq_true,Bool.and_eq_true,Bool.not_eq_true'] at h1
   rcases h1 with h1 | ⟨⟨h1,h2⟩,h3⟩
   ·exact .inl h1
   ·refine .inr ⟨fun x hx hy=>?_,fun x hx hy=>?_,fun x hx hy=>?_⟩
    ·rw [AU6.2 ⟨x,hx,hy⟩] at h1;cases h1
    ·rw [AU6.2 ⟨x,hx,hy⟩] at h2;cases h2
    ·rw [AU6.2 ⟨x,hx,hy⟩] at h3;cases h3
  | succ k=>
   have:=A6R h.2 k q' (by simpa using hk)
   rw [show j + 1 + k = j + (k + 1) by omega] at this
   exact this
theorem Ay7 {b:List Nat}:∀ {rs:List Rec} {m:Nat},A3V b rs m = true → ∀ i j r q,i < j → rs[i]? = some r → rs[j]? = some q → Nat.testBit (b.getD (m + j) 0) (m + i) = true ∨ Bs0 r q
 | [],_,_,_,_,_,_,_,h,_=>by simp at h
 | r0 :: rs,m,h,i,j,r,q,hij,hi,hj=>by
  simp only [A3V,Bool.and_eq_true] at h
  cases j with
  | zero=>omega
  | succ j=>
   cases i with
   | zero=>
    simp only [List.getElem?_cons_zero,Option.some.injEq] at hi;subst hi
    have:=A6R h.1 j q (by simpa using hj)
    rw [show m + 1 + j = m + (j + 1) by omega] at this
    simpa using this
   | succ i=>
    have:=Ay7 h.2 i j r q (by omega) (by simpa using hi) (by simpa using hj)
    rw [show m + 1 + j = m + (j + 1) by omega,show m + 1 + i = m + (i + 1) by omega] at this
    exact this
end Go.Rf

end
section
namespace Go.Rf
set_option linter.unusedSectionVars false
variable [T:Laid]
def AS2 (acc:Array Nat) (o:Oper):Array Nat:=acc.push (o.after.foldl (fun s e=>if Region.binds .any e then s ||| 2 ^ e.on ||| acc.getD e.on 0 else s) 0)
theorem Aa7:∀ {os:List Oper} {acc:Array Nat} {k:Nat},k < acc.size → (os.foldl AS2 acc).getD k 0 = acc.getD k 0
 | [],_,_,_=>rfl
 | o :: os,acc,k,h=>by
  simp only [List.foldl_cons]
  rw [Aa7 (by simp [AS2];omega)]
  simp [AS2,Array.getD_eq_getD_getElem?,Array.getElem?_push,Nat.ne_of_lt h]
theorem A17:∀ {os:List Oper} {acc:Array Nat} {i:Nat} {o:Oper},os[i]? = some o → ∃ pre:Array Nat,pre.size = acc.size + i ∧ (∀ k,k < pre.size → pre.getD k 0 = (os.foldl AS2 acc).getD k 0) ∧
  (os.foldl AS2 acc).getD (acc.size + i) 0 = o.after.foldl (fun s e=>if Region.binds .any e then s ||| 2 ^ e.on ||| pre.getD e.on 0 else s) 0
 | [],_,_,_,h=>by simp at h
 | o' :: os,acc,i,o,h=>by
  cases i with
  | zero=>
   simp only [List.getElem?_cons_zero,Option.some.injEq] at h;subst h
   refine ⟨acc,rfl,fun k hk=>?_,?_⟩
   ·simp only [List.foldl_cons]
    rw [Aa7 (by simp [AS2];omega)]
    simp [AS2,Array.getD_eq_getD_getElem?,Array.getElem?_push,Nat.ne_of_lt hk]
   ·simp only [List.foldl_cons,Nat.add_zero]
    rw [Aa7 (by simp [AS2])]
    simp [AS2,Array.getD_eq_getD_getElem?]
  | succ i=>
   obtain ⟨pre,h1,h2,h3⟩:=A17 (acc:=AS2 acc o') (i:=i) (by simpa using h)
   have hs:(AS2 acc o').size = acc.size + 1:=by simp [AS2]
   refine ⟨pre,by rw [h1,hs];omega,h2,?_⟩
   simp only [List.foldl_cons]
   rw [show acc.size + (i + 1) = (AS2 acc o').size + i by rw [hs];omega]
   exact h3
theorem A3F {f:Edge → Nat} {m:Nat}:∀ {es:List Edge} {s:Nat},Nat.testBit (es.foldl (fun s e=>if Region.binds .any e then s ||| 2 ^ e.on ||| f e else s) s) m = true →
  Nat.testBit s m = true ∨ ∃ e ∈ es,Region.binds .any e = true ∧ (e.on = m ∨ Nat.testBit (f e) m = true)
 | [],s,h=>.inl h
 | e :: es,s,h=>by
  simp only [List.foldl_cons] at h
  rcases A3F h with h | ⟨e',h1,h2⟩
  ·split at h
   ·rename_i hb
    simp only [Nat.testBit_or,Bool.or_eq_true,Nat.testBit_two_pow,decide_eq_true_eq] at h
    rcases h with (h | h) | h
    ·exact .inl h
    ·exact .inr ⟨e,by simp,hb,.inl h⟩
    ·exact .inr ⟨e,by simp,hb,.inr h⟩
   ·exact .inl h
  ·exact .inr ⟨e',by simp [h1],h2⟩
theorem A0k:∀ {os:List Oper} {m i:Nat} {o:Oper} {e:Edge},AH8 os m = true → os[i]? = some o → e ∈ o.after.toList → Region.binds .any e = true → e.on < m + i
 | [],_,_,_,_,_,h,_,_=>by simp at h
 | o' :: os,m,i,o,e,h,hi,he,hb=>by
  simp only [AH8,Bool.and_eq_true] at h
  cases i with
  | zero=>
   simp only [List.getElem?_cons_zero,Option.some.injEq] at hi;subst hi
   have:=List.all_eq_true.1 h.1 e he
   simpa [Nat.blt_eq,hb] using this
  | succ i=>have:=A0k h.2 (by simpa using hi) he hb;omega
theorem A7h {ops:List Oper} {i m:Nat} {o:Oper} (he:AH8 ops 0 = true) (hi:ops[i]? = some o) (h:Nat.testBit ((AV7 ops).getD i 0) m = true):
  ∃ e ∈ o.after.toList,Region.binds .any e = true ∧ e.on < i ∧ (e.on = m ∨ Nat.testBit ((AV7 ops).getD e.on 0) m = true):=by
 have hb:∀ k,(AV7 ops).getD k 0 = (ops.foldl AS2 #[]).getD k 0:=fun k=>by
  unfold AV7 Region.before
  have:(ops.toArray.foldl (fun acc o=>acc.push (o.after.foldl (fun s e=>if Region.binds .any e then s ||| 2 ^ e.on ||| acc.getD e.on 0 else s) 0)) #[]) = ops.foldl AS2 #[]:=by
   rw [← Array.foldl_toList];rfl
  rw [this]
  simp [List.getD,Array.getD_eq_getD_getElem?]
 rw [hb] at h
 obtain ⟨pre,h1,h2,h3⟩:=A17 (acc:=#[]) hi
 simp only [List.size_toArray,List.length_nil,Nat.zero_add] at h1 h3
 rw [h3,← Array.foldl_toList] at h
 rcases A3F h with h | ⟨e,e1,e2,e3⟩
 ·simp at h
 ·have hlt:=A0k he hi e1 e2
  rw [Nat.zero_add] at hlt
  refine ⟨e,e1,e2,hlt,e3.imp id fun h=>?_⟩
  rw [hb,← h2 e.on (by omega)];exact h
end Go.Rf

end
section
namespace Go.Rf
set_option linter.unusedSectionVars false
variable [T:Laid]
def cf:List Bool → Nat
 | []=>0
 | b :: l=>(if b then 0 else 1) + cf l
theorem BS3:∀ {l:List Bool} {i:Nat},l[i]? = some false → cf (l.set i true) + 1 = cf l
 | [],_,h=>by simp at h
 | b :: l,0,h=>by simp only [List.getElem?_cons_zero,Option.some.injEq] at h;subst h;simp [cf];omega
 | b :: l,i + 1,h=>by simp only [List.set_cons_succ,cf];have:=BS3 (l:=l) (i:=i) (by simpa using h);omega
theorem A8X:∀ {l:List Bool} {i:Nat},cf l = 0 → l[i]? ≠ some false
 | [],_,_=>by simp
 | b :: l,0,h=>by
  simp only [cf] at h
  simp only [List.getElem?_cons_zero,ne_eq,Option.some.injEq]
  intro e;subst e;simp at h
 | b :: l,i + 1,h=>by
  simp only [cf] at h
  simpa using A8X (l:=l) (i:=i) (by omega)
theorem A8o {L:Nat → Bool}:∀ {uss:List (List Up)} {k:Nat},(∀ j,j < uss.length → L (k + j) = true) → sel L uss k = uss.flatten
 | [],_,_=>rfl
 | us :: r,k,h=>by
  simp only [sel,List.flatten_cons]
  rw [if_pos (by simpa using h 0 (by simp)),A8o fun j hj=>by
   have:=h (j + 1) (by simp;omega)
   rw [show k + (j + 1) = k + 1 + j by omega] at this
   exact this]
section
variable {P:Program} {H:Nat → Option (List Value)} {N:Nat} {g:yB} {V:Nat → Option Value} {w w':World} {S S':Nat → Prop} {β β':Key → Option Nat} {a:Act}
variable {E:Env} {R:Run E}
theorem Rel.heap (h:Rel H N g V w S β) (hw:w'.heap = w.heap) (hD:yK N g):Rel H N g V w' S β:=by
 have h1:Rel H N (g.up (.put N .dead)) V w' S β:=h.put ⟨h.sane.inj,h.sane.sep,fun k b hk=>by rw [hw];exact h.sane.live k b hk,fun b hk=>by rw [hw];exact h.sane.liveS b hk,h.sane.tabs fun b hb=>⟨hb,by rw [hw]⟩⟩
  (fun b hb=>⟨hb,by rw [hw]⟩) (fun _ _ _ _ _ hb=>⟨hb,by rw [hw]⟩) (fun _ _=>rfl) trivial
 exact h1.fin (fun i hi=>(qX (by omega)).symm) hD (fun _ _=>rfl)
theorem A75 {l l':List Slot} {fp:List Nat} (h:∀ x ∈ fp,at? l x = at? l' x):qY l fp = qY l' fp:=by
 funext i
 unfold qY
 by_cases hi:(fp.any (Nat.beq i ·)) = true
 ·rw [if_pos hi,if_pos hi]
  obtain ⟨x,hx,e⟩:=List.any_eq_true.1 hi
  have:i = x:=by simpa [Nat.beq_eq] using e
  rw [this];exact h x hx
 ·rw [if_neg hi,if_neg hi]
theorem At4 {ops:List Oper} {listed:Array Bool} {i:Nat}:i ∈ Region.ready .any ops.toArray listed ↔ ∃ o,ops[i]? = some o ∧ listed.getD i true = false ∧ ∀ e ∈ o.after.toList,Region.binds .any e = true → listed.getD e.on false = true:=by
 unfold Region.ready
 rw [List.mem_filter,List.mem_range]
 constructor
 ·rintro ⟨h1,h2⟩
  have h1:i < ops.length:=by simpa using h1
  simp only [List.getElem?_toArray,List.getElem?_eq_getElem h1,Option.map_some,Option.getD_some,Bool.and_eq_true,Bool.not_eq_true'] at h2
  refine ⟨_,List.getElem?_eq_getElem h1,h2.1,fun e he hb=>?_⟩
  have h3:=h2.2
  rw [← Array.all_toList] at h3
  have:=List.all_eq_true.1 h3 e he
  rw [hb] at this
  simpa using this
 ·rintro ⟨o,h1,h2,h3⟩
  have hl:i < ops.length:=(List.getElem?_eq_some_iff.1 h1).1
  refine ⟨by simpa using hl,?_⟩
  simp only [List.getElem?_toArray,h1,Option.map_some,Option.getD_some,Bool.and_eq_true,Bool.not_eq_true']
  refine ⟨h2,?_⟩
  rw [← Array.all_toList]
  refine List.all_eq_true.2 fun e he=>?_
  cases hb:Region.binds .any e with
  | true=>simp [h3 e he hb]
  | false=>rfl
theorem A5v {listed:Array Bool} {i:Nat} (h:listed.getD i true = false):i < listed.size ∧ listed.getD i false = false:=by
 rw [Array.getD_eq_getD_getElem?] at h ⊢
 cases hb:listed[i]? with
 | none=>rw [hb] at h;simp at h
 | some b=>
  rw [hb] at h
  simp only [Option.getD_some] at h
  exact ⟨(Array.getElem?_eq_some_iff.1 hb).1,by simp [h]⟩
theorem A7W {listed:Array Bool} {i:Nat} (hi:i < listed.size) (h:listed.getD i false = false):listed.getD i true = false:=by
 rw [Array.getD_eq_getD_getElem?,Array.getElem?_eq_getElem hi] at h ⊢
 exact h
theorem A1I {listed:Array Bool} {i j:Nat} (hi:i < listed.size):(listed.setIfInBounds i true).getD j false = (decide (j = i) || listed.getD j false):=by
 rw [Array.getD_eq_getD_getElem?,Array.getD_eq_getD_getElem?,Array.getElem?_setIfInBounds]
 by_cases e:i = j
 ·subst e;simp [hi]
 ·simp [e,Ne.symm e]
theorem A82 {ops:List Oper} {listed:Array Bool} (hs:listed.size = ops.length) (he:AH8 ops 0 = true) (h:Region.ready .any ops.toArray listed = []):∀ i,i < ops.length → listed.getD i false = true:=by
 intro i
 induction i using Nat.strongRecOn with
 | ind i ih=>
  intro hi
  cases hb:listed.getD i false with
  | true=>rfl
  | false=>
   have:i ∈ Region.ready .any ops.toArray listed:=At4.2 ⟨ops[i],List.getElem?_eq_getElem hi,A7W (by omega) hb,fun e h1 hbd=>by
    have:=A0k he (List.getElem?_eq_getElem hi) h1 hbd
    exact ih e.on (by omega) (by omega)⟩
   rw [h] at this;cases this
theorem A4s {uss:List (List Up)} {rcs:List Rec} {L:Nat → Bool} {b:List Nat} {i:Nat} {rc:Rec} (hn:uss.length = rcs.length) (hw:∀ (j:Nat) us q,uss[j]? = some us → rcs[j]? = some q → q.wr = us.map Up.slot)
  (hsp:∀ i j r q,i < j → rcs[i]? = some r → rcs[j]? = some q → Nat.testBit (b.getD j 0) i = true ∨ Bs0 r q)
  (hcl:∀ j m,L j = true → Nat.testBit (b.getD j 0) m = true → L m = true) (hci:∀ m,Nat.testBit (b.getD i 0) m = true → L m = true) (hL:L i = false) (hrc:rcs[i]? = some rc)
  {x:Nat} (hx:x ∈ rc.fp ∨ x ∈ rc.wr):∀ (j:Nat) us,uss[j]? = some us → (∃ u ∈ us,u.slot = x) → L j = decide (j < i):=by
 intro j us hj hu
 have hjl:j < uss.length:=(List.getElem?_eq_some_iff.1 hj).1
 obtain ⟨q,hq⟩:∃ q,rcs[j]? = some q:=⟨_,List.getElem?_eq_getElem (by omega)⟩
 have hxq:x ∈ q.wr:=by
  rw [hw j us q hj hq]
  obtain ⟨u,h1,h2⟩:=hu
  exact List.mem_map.2 ⟨u,h1,h2⟩
 rcases Nat.lt_trichotomy j i with h | h | h
 ·rw [decide_eq_true h]
  rcases hsp j i q rc h hq hrc with h1 | ⟨h1,h2,h3⟩
  ·exact hci j h1
  ·rcases hx with hx | hx
   ·exact absurd hx (h1 x hxq)
   ·exact absurd hx (h2 x hxq)
 ·subst h;simpa using hL
 ·rw [decide_eq_false (by omega)]
  cases hb:L j with
  | false=>rfl
  | true=>
   rcases hsp i j rc q h hrc hq with h1 | ⟨h1,h2,h3⟩
   ·rw [hcl j i hb h1] at hL;cases hL
   ·rcases hx with hx | hx
    ·exact absurd hx (h3 x hxq)
    ·exact absurd hxq (h2 x hx)
theorem A2x {l:List Slot} {x:Nat} (h:l.length ≤ x):at? l x = Slot.dead:=by
 unfold at?;simp [List.getD,List.getElem?_eq_none h]
def PO (t:Ty) (k:Nat) (s:Slot):Prop:=A0H s.sv = some t ∧ s.s = k
theorem A4F {x:Nat}:∀ {us:List Up} {s:Slot},us.any (A0p x) = false → (bG x s us).s = s.s
 | [],_,_=>rfl
 | u :: us,s,h=>by
  rw [List.any_cons,Bool.or_eq_false_iff] at h
  simp only [bG]
  rw [A4F h.2]
  split
  ·rename_i hx
   cases u with
   | put r v=>
    have:Nat.beq x r = true:=by rw [show x = r from hx];exact Nat.beq_refl r
    rw [show A0p x (.put r v) = Nat.beq x r from rfl,this] at h
    exact absurd h.1 (by decide)
   | mod r v=>rfl
   | pub r v=>rfl
  ·rfl
theorem A6T {x:Nat}:∀ {us:List Up} {s s':Slot},x ∈ us.map Up.slot → (bG x s us).sv = (bG x s' us).sv
 | [],_,_,h=>by cases h
 | u :: us,s,s',h=>by
  simp only [bG]
  by_cases hm:x ∈ us.map Up.slot
  ·exact A6T hm
  ·have hx:x = u.slot:=by
    rw [List.map_cons,List.mem_cons] at h
    exact h.resolve_right hm
   have hq:∀ v ∈ us,v.slot ≠ x:=fun v hv e=>hm (e ▸ List.mem_map_of_mem hv)
   rw [if_pos hx,if_pos hx,eT hq,eT hq]
   cases u <;> rfl
theorem A5p {x:Nat} {t:Ty} {k:Nat} {us:List Up} {l:List Slot} (hl:x < l.length) (hb:x ∉ AR3 l us):
  (PO t k (at? l x) ↔ PO t k (at? (iS l us) x)) ∧ (PO t k (at? l x) → ∀ s,PO t k s → PO t k (bG x s us)):=by
 rw [eE hl]
 by_cases hm:x ∈ us.map Up.slot
 ·have he:Al7 l us x = true:=by
   cases he:Al7 l us x with
   | true=>rfl
   | false=>exact absurd (List.mem_filter.2 ⟨hm,by rw [he];rfl⟩) hb
  unfold Al7 at he
  rw [Bool.and_eq_true,eE hl] at he
  have hp:us.any (A0p x) = false:=by simpa using he.1
  have he2:=he.2
  split at he2
  ·rename_i a b e1 e2
   have hab:a = b:=of_decide_eq_true he2
   subst hab
   refine ⟨?_,fun h s hs=>?_⟩
   ·unfold PO
    rw [A4F hp,e1,e2]
   ·refine ⟨?_,by rw [A4F hp];exact hs.2⟩
    rw [A6T (s':=at? l x) hm,e2,← e1];exact h.1
  ·cases he2
 ·have hn:∀ s,bG x s us = s:=fun s=>eT (fun v hv e=>hm (e ▸ List.mem_map_of_mem hv))
  rw [hn]
  exact ⟨Iff.rfl,fun _ s hs=>by rw [hn];exact hs⟩
theorem A3E {x:Nat} {t:Ty} {k:Nat}:∀ {uss:List (List Up)} {l:List Slot} {i:Nat},x < l.length → (∀ j us,uss[j]? = some us → x ∉ AR3 (iS l (uss.take j).flatten) us) →
  PO t k (at? (iS l (uss.take i).flatten) x) → PO t k (at? l x)
 | [],l,i,_,_,h=>by simpa [iS] using h
 | us :: uss,l,0,_,_,h=>by simpa [iS] using h
 | us :: uss,l,i + 1,hl,hb,h=>by
  have h0:x ∉ AR3 l us:=by have:=hb 0 us rfl;simpa [iS] using this
  refine (A5p hl h0).1.2 (A3E (uss:=uss) (l:=iS l us) (i:=i) (by rw [nI];exact hl) (fun j us' hj=>?_) ?_)
  ·have:=hb (j + 1) us' (by simpa using hj)
   simpa [hO] using this
  ·simpa [hO] using h
theorem A6Q {x:Nat} {t:Ty} {k:Nat} {L:Nat → Bool}:∀ {uss:List (List Up)} {l:List Slot} {kk:Nat},x < l.length → (∀ j us,uss[j]? = some us → x ∉ AR3 (iS l (uss.take j).flatten) us) →
  PO t k (at? l x) → ∀ s,PO t k s → PO t k (bG x s (sel L uss kk))
 | [],l,kk,_,_,_,s,hs=>hs
 | us :: uss,l,kk,hl,hb,h,s,hs=>by
  have h0:x ∉ AR3 l us:=by have:=hb 0 us rfl;simpa [iS] using this
  obtain ⟨h1,h2⟩:=A5p (t:=t) (k:=k) hl h0
  simp only [sel]
  rw [fD]
  refine A6Q (uss:=uss) (l:=iS l us) (by rw [nI];exact hl) (fun j us' hj=>?_) (h1.1 h) _ ?_
  ·have:=hb (j + 1) us' (by simpa using hj)
   simpa [hO] using this
  ·split
   ·exact h2 h s hs
   ·exact hs
theorem AL2 {l:List Slot} {fp:List Nat} {s:Nat} (h:s ∈ fp):qY l fp s = at? l s:=by
 unfold qY
 rw [if_pos]
 exact List.any_eq_true.2 ⟨s,h,by simp⟩
theorem Bc7 {l l':List Slot} {fp fp':List Nat} {mv:Bool} {o:Oper} {x:Operand} {s:Nat} {us:List Up} (hm:o.op = .move x) (hs:AT7 (at? l) mv x = some s) (hk:opK E R mv (qY l fp) o some = some us) (h1:s ∈ fp) (h2:s ∈ fp')
  {t:Ty} (hp:PO t (at? l s).s (at? l' s)):opK E R mv (qY l' fp') o some = some us:=by
 unfold AT7 at hs
 split at hs
 ·rename_i s0
  split at hs
  ·rename_i hc
   cases hs
   simp only [Bool.and_eq_true] at hc
   have e1:AT7 (qY l fp) mv (.tmp s) = some s:=by
    unfold AT7
    simp only
    rw [AL2 h1,if_pos (by simp [hc.1,hc.2])]
   have e2:AT7 (qY l' fp') mv (.tmp s) = some s:=by
    unfold AT7
    simp only
    rw [AL2 h2,if_pos (by simp [hc.1,hp.1])]
   unfold opK at hk ⊢
   rw [hm] at hk ⊢
   simp only at hk ⊢
   unfold A5b at hk ⊢
   rw [e1] at hk
   rw [e2]
   simp only at hk ⊢
   rw [AL2 h1] at hk
   rw [AL2 h2,hp.2]
   exact hk
  ·cases hs
 ·cases hs
theorem Bf3 {l:List Slot} {o:Oper} {mv:Bool} {x:Operand} {s:Nat} (hm:o.op = .move x) (hs:AT7 (at? l) mv x = some s):s ∈ A1P o l:=by
 unfold AT7 at hs
 split at hs
 ·split at hs
  ·cases hs
   unfold A1P
   rw [hm]
   simp [Op.operands,Af2]
  ·cases hs
 ·cases hs
theorem BX2 (hR:AU1 E R) (hm:E.P.follows .mixedOrders = true):A1x E R:=by
 intro ρ H mv ops id l a w S β κ r Q hl hrel hin hk hQ
 obtain ⟨uss,rcs,hu,hrc,hκ,⟨hap,hnb⟩,hed,hst⟩:=Ax6 hk
 simp only [List.nil_append] at hap hnb
 have hsp:=Ay7 hap
 simp only [Nat.zero_add] at hsp hst
 have hwr:∀ (j:Nat) us q,uss[j]? = some us → rcs[j]? = some q → q.wr = us.map Up.slot:=fun j us q h1 h2=>by
  have hj:j < ops.length:=by have:=(List.getElem?_eq_some_iff.1 h1).1;omega
  exact (hst j ops[j] us q (List.getElem?_eq_getElem hj) h1 h2).1
 refine wp_region_any hm ?_
 have hw1:Rel H a.tmps.size (at? l) (oR a) { w with drawn:=w.drawn + 1 } S β:=hrel.heap rfl (hl ▸ A9p)
 have hs1:Step w S β { w with drawn:=w.drawn + 1 } S β:=⟨Nat.le_refl _,fun _ _ _=>rfl,fun k _ hb=>.inl ⟨k,hb⟩,fun _ hb=>hb,fun _ hb=>.inl hb,⟨rfl,rfl,rfl⟩⟩
 have hn:ops.toArray.size = ops.length:=by simp
 have fin:∀ (listed:Array Bool) (a':Act) (w':World) (S':Nat → Prop) (β':Key → Option Nat),(∀ i,i < ops.length → listed.getD i false = true) → a'.tmps.size = a.tmps.size → a'.defers = a.defers →
   Rel H a.tmps.size (at? (iS l (sel (fun i=>listed.getD i false) uss 0))) (oR a') w' S' β' → Step w S β w' S' β' → Q .normal a' w':=by
  intro listed a' w' S' β' hall e1 e2 hr hstep
  have hlast:=A8o (L:=fun i=>listed.getD i false) (uss:=uss) (k:=0) (fun j hj=>by rw [Nat.zero_add];exact hall j (by omega))
  exact hQ _ a' w' S' β' (by rw [nI];exact hl) (by rw [← hlast] at hκ;exact hκ) e1 e2 hr hstep
 have key:∀ (fuel:Nat) (listed:Array Bool) (a':Act) (w':World) (S':Nat → Prop) (β':Key → Option Nat),listed.size = ops.length → cf listed.toList = fuel →
   (∀ i m,listed.getD i false = true → Nat.testBit ((AV7 ops).getD i 0) m = true → listed.getD m false = true) → a'.tmps.size = a.tmps.size → a'.defers = a.defers →
   Rel H a.tmps.size (at? (iS l (sel (fun i=>listed.getD i false) uss 0))) (oR a') w' S' β' → Step w S β w' S' β' → wpAny E.P .any ops.toArray Q fuel listed a' w':=by
  intro fuel
  induction fuel with
  | zero=>
   intro listed a' w' S' β' hsz hcf hcl e1 e2 hr hstep
   have hall:∀ i,i < ops.length → listed.getD i false = true:=fun i hi=>by
    have h1:=A8X (l:=listed.toList) (i:=i) hcf
    have h2:i < listed.size:=by omega
    rw [Array.getElem?_toList,Array.getElem?_eq_getElem h2] at h1
    simp only [Array.getD_eq_getD_getElem?,Array.getElem?_eq_getElem h2,Option.getD_some]
    cases hb:listed[i] with
    | true=>rfl
    | false=>rw [hb] at h1;exact absurd rfl h1
   refine ⟨?_,fin listed a' w' S' β' hall e1 e2 hr hstep⟩
   apply List.eq_nil_iff_forall_not_mem.2
   intro i hi
   obtain ⟨o,h1,h2,_⟩:=At4.1 hi
   have:=hall i (List.getElem?_eq_some_iff.1 h1).1
   rw [(A5v h2).2] at this;cases this
  | succ fuel ih=>
   intro listed a' w' S' β' hsz hcf hcl e1 e2 hr hstep
   refine ⟨fun hnil=>fin listed a' w' S' β' (A82 hsz hed hnil) e1 e2 hr hstep,fun i hi=>?_⟩
   obtain ⟨o,ho,hli,hedge⟩:=At4.1 hi
   obtain ⟨hilt,hLi⟩:=A5v hli
   obtain ⟨us,hus⟩:∃ us,uss[i]? = some us:=⟨_,List.getElem?_eq_getElem (by omega)⟩
   obtain ⟨rc,hrci⟩:∃ rc,rcs[i]? = some rc:=⟨_,List.getElem?_eq_getElem (by omega)⟩
   obtain ⟨hwi,_,hst'⟩:=hst i o us rc ho hus hrci
   have hci:∀ m,Nat.testBit ((AV7 ops).getD i 0) m = true → listed.getD m false = true:=fun m hm=>by
    obtain ⟨e,e1,e2,_,e4⟩:=A7h hed ho hm
    have:=hedge e e1 e2
    rcases e4 with e4 | e4
    ·rw [← e4];exact this
    ·exact hcl e.on m this e4
   have hag:∀ {x:Nat},x ∈ rc.fp ∨ x ∈ rc.wr → ∀ (j:Nat) us,uss[j]? = some us → (∃ u ∈ us,u.slot = x) → listed.getD j false = decide (j < i):=fun {x} hx=>
    A4s (L:=fun i=>listed.getD i false) (by omega) hwr hsp hcl hci hLi hrci hx
   have hat:∀ x,x ∈ rc.fp ∨ x ∈ rc.wr → at? (iS l (sel (fun i=>listed.getD i false) uss 0)) x = at? (iS l (uss.take i).flatten) x:=fun x hx=>by
    by_cases hlen:x < l.length
    ·rw [eE hlen,eE hlen]
     rw [AU8 (L:=fun i=>listed.getD i false) (M:=fun j=>decide (j < 0 + i)) (fun j us hj hu=>by simp only [Nat.zero_add];exact hag hx j us hj hu),A1Q]
    ·rw [A2x (by rw [nI];omega),A2x (by rw [nI];omega)]
   have hat':∀ x,at? (iS (iS l (sel (fun i=>listed.getD i false) uss 0)) us) x = at? (iS l (sel (fun j=>(listed.setIfInBounds i true).getD j false) uss 0)) x:=fun x=>by
    by_cases hlen:x < l.length
    ·rw [eE (by rw [nI];exact hlen),eE hlen,eE hlen]
     by_cases ht:∃ u ∈ us,u.slot = x
     ·have hx:x ∈ rc.wr:=by
       rw [hwi]
       obtain ⟨u,h1,h2⟩:=ht
       exact List.mem_map.2 ⟨u,h1,h2⟩
      rw [AU8 (L:=fun i=>listed.getD i false) (M:=fun j=>decide (j < 0 + i)) (fun j us hj hu=>by simp only [Nat.zero_add];exact hag (.inr hx) j us hj hu),A1Q,← fD,
       AU8 (L:=fun j=>(listed.setIfInBounds i true).getD j false) (M:=fun j=>decide (j < 0 + (i + 1))) (fun j us' hj hu=>by
        simp only [Nat.zero_add]
        rw [A1I hilt,hag (.inr hx) j us' hj hu,← Bool.decide_or]
        exact decide_eq_decide.2 (by omega)),A1Q,List.take_add_one,hus]
      simp
     ·rw [eT fun u hu e=>ht ⟨u,hu,e⟩]
      exact AU8 fun j us' hj hu=>by
       simp only [Nat.zero_add]
       rw [A1I hilt]
       by_cases e:j = i
       ·subst e;rw [hj] at hus;cases hus;exact absurd hu ht
       ·simp [e]
    ·rw [A2x (by rw [nI,nI];omega),A2x (by rw [nI];omega)]
   have next:∀ a'' w'' S'' β'',a''.tmps.size = a.tmps.size → a''.defers = a.defers → Rel H a.tmps.size (at? (iS (iS l (sel (fun i=>listed.getD i false) uss 0)) us)) (oR a'') w'' S'' β'' → Step w S β w'' S'' β'' →
     wpAny E.P .any ops.toArray Q fuel (listed.setIfInBounds i true) a'' w'':=by
    intro a'' w'' S'' β'' f1 f2 hr'' hstep''
    refine ih _ a'' w'' S'' β'' (by simpa using hsz) ?_ ?_ f1 f2 ?_ hstep''
    ·have:listed.toList[i]? = some false:=by
      rw [Array.getElem?_toList,Array.getElem?_eq_getElem hilt]
      rw [Array.getD_eq_getD_getElem?,Array.getElem?_eq_getElem hilt] at hLi
      simpa using hLi
     have:=BS3 this
     rw [Array.toList_setIfInBounds];omega
    ·intro j m hj hm
     rw [A1I hilt] at hj ⊢
     by_cases e:j = i
     ·subst e;simp [hci m hm]
     ·simp only [e,decide_false,Bool.false_or] at hj
      simp [hcl j m hj hm]
    ·rw [← funext hat'];exact hr''
   have hoin:=hin o (List.mem_of_getElem? ho)
   have hlc:(iS l (sel (fun i=>listed.getD i false) uss 0)).length = a'.tmps.size:=by rw [nI,hl,e1]
   unfold wpOp
   simp only [List.getElem?_toArray,ho]
   rcases hst' with ⟨hop,gs,hg,hfc⟩ | ⟨j,want,g,h1,h2,h3,h4,h5⟩
   ·have hgs:∀ x,x ∈ gs → x ∈ rc.fp:=by
     rcases hfc with h | ⟨h,_⟩
     ·intro x hx;rw [h];exact List.mem_append_left _ hx
     ·intro x hx;rw [h];exact hx
    have hwant:Region.wanted o (yielded ops.toArray a'.tmps) = true:=by
     rcases hg with ⟨h,_⟩ | ⟨j,want,g,h1,h2,h3,h4⟩
     ·simp [Region.wanted,h]
     ·have:=AT1 hr h2 (t:=want) (by rw [hat g (.inl (hgs g (by rw [h3];simp)))];exact h4)
      simp [Region.wanted,h1,this]
    rw [if_pos hwant]
    left
    have hop:opK E R (mv.any (Nat.beq i ·)) (qY (iS l (sel (fun i=>listed.getD i false) uss 0)) (A1P o (iS l (uss.take i).flatten))) o some = some us:=by
     rcases hfc with h | ⟨h,x,s,hm,hs,hsf⟩
     ·rw [A75 fun x hx=>hat x (.inl (by rw [h];exact List.mem_append_right _ hx))];exact hop
     ·have hmem:=Bf3 hm hs
      have hbads:∀ j us,uss[j]? = some us → s ∉ AR3 (iS l (uss.take j).flatten) us:=fun j us' hj hbad=>by
       have hjl:j < ops.length:=by have:=(List.getElem?_eq_some_iff.1 hj).1;omega
       obtain ⟨q,hq⟩:∃ q,rcs[j]? = some q:=⟨_,List.getElem?_eq_getElem (by omega)⟩
       have hb2:=(hst j ops[j] us' q (List.getElem?_eq_getElem hjl) hj hq).2.1 s hbad
       unfold BO8 at hnb
       rw [AU6.2 ⟨s,List.mem_flatMap.2 ⟨rc,List.mem_of_getElem? hrci,by rw [hsf];simp⟩,List.mem_flatMap.2 ⟨q,List.mem_of_getElem? hq,hb2⟩⟩] at hnb
       cases hnb
      have hps:∃ t,A0H (at? (iS l (uss.take i).flatten) s).sv = some t:=by
       unfold AT7 at hs
       split at hs
       ·split at hs
        ·rename_i hc
         cases hs
         simp only [Bool.and_eq_true] at hc
         exact Option.isSome_iff_exists.1 hc.2
        ·cases hs
       ·cases hs
      obtain ⟨t,ht⟩:=hps
      have hlen:s < l.length:=by
       rcases Nat.lt_or_ge s l.length with h | h
       ·exact h
       ·rw [A2x (by rw [nI];exact h)] at ht;cases ht
      have hpi:PO t (at? (iS l (uss.take i).flatten) s).s (at? (iS l (uss.take i).flatten) s):=⟨ht,rfl⟩
      have hp0:=A3E hlen hbads hpi
      refine Bc7 hm hs hop hmem hmem (t:=t) ?_
      have hfin:=A6Q (L:=fun i=>listed.getD i false) (kk:=0) hlen hbads hp0 _ hp0
      rw [← eE hlen] at hfin
      exact hfin
    refine BC1 hR hlc (by rw [e1];exact hr) (by rw [e1];exact hoin) hop fun us' a'' w'' S'' β'' g0 g1 g2 g3 g4=>?_
    cases g0
    exact next a'' w'' S'' β'' (g1.trans e1) (g2.trans e2) (by rw [← e1];exact g3) (hstep.trans g4)
   ·have hv:=hat g (.inl (by rw [h3];simp))
    have hwant:Region.wanted o (yielded ops.toArray a'.tmps) = false:=by
     rcases h4 with h4 | h4
     ·have:=Ar9 hr h2 (by rw [hv];exact h4)
      simp [Region.wanted,h1,this]
     ·have:=AT1 hr h2 (t:=!want) (by rw [hv];exact h4)
      simp [Region.wanted,h1,this]
    rw [if_neg (by rw [hwant];simp)]
    cases hd:o.dst with
    | some d=>
     rw [hd] at h5
     simp only at h5
     subst h5
     have hdN:=xS hoin hd
     refine next _ _ _ _ (vC.trans e1) (yW.trans e2) ?_ hstep
     have:=(show Rel H a'.tmps.size _ (oR a') w' S' β' by rw [e1];exact hr).unset hlc (d:=d) (by omega)
     rw [e1] at this;exact this
    | none=>
     rw [hd] at h5
     simp only at h5
     subst h5
     exact next _ _ _ _ e1 e2 hr hstep
 refine key _ _ a _ S β (by simp) ?_ ?_ rfl rfl ?_ hs1
 ·have:∀ n,cf (List.replicate n false) = n:=by
   intro n
   induction n with
   | zero=>rfl
   | succ n ih=>simp only [List.replicate_succ,cf,ih];simp;omega
  rw [Array.toList_replicate];exact this _
 ·intro i m hi
  exfalso
  simp [Array.getD_eq_getD_getElem?,Array.getElem?_replicate] at hi
  split at hi <;> simp at hi
 ·have:∀ (uss:List (List Up)) (k:Nat),sel (fun i=>(Array.replicate ops.toArray.size false).getD i false) uss k = []:=by
   intro uss
   induction uss with
   | nil=>intro k;rfl
   | cons us r ih=>
    intro k
    simp only [sel,ih (k + 1),List.append_nil]
    rw [if_neg]
    simp [Array.getD_eq_getD_getElem?,Array.getElem?_replicate]
    split <;> simp
  rw [this];exact hw1
end
end Go.Rf

end
section
namespace Go.Rf
set_option linter.unusedSectionVars false
variable [T:Laid]
def noH:Nat → Option (List Value):=fun _=>none
theorem A0b:∀ {f:Fl},f.nopin = true → f.pins = []
 | .pin _ _,h=>by simp [Fl.nopin] at h
 | .sh,_ | .gone,_ | .own _,_ | .pr _ _,_ | .ar _,_=>rfl
theorem bN:∀ {f:Fl},f.nopin = true → f.base = f
 | .pin _ _,h=>by simp [Fl.nopin] at h
 | .sh,_ | .gone,_ | .own _,_ | .pr _ _,_ | .ar _,_=>rfl
theorem A43:∀ {f:Fl},f.nopin = true → f.l.nopin = true
 | .pin _ _,h=>by simp [Fl.nopin] at h
 | .pr _ _,h=>by simp only [Fl.nopin,Bool.and_eq_true] at h;exact h.1
 | .sh,_ | .gone,_ | .own _,_ | .ar _,_=>rfl
theorem BF4:∀ {f:Fl},f.nopin = true → f.r.nopin = true
 | .pin _ _,h=>by simp [Fl.nopin] at h
 | .pr _ _,h=>by simp only [Fl.nopin,Bool.and_eq_true] at h;exact h.2
 | .sh,_ | .gone,_ | .own _,_ | .ar _,_=>rfl
section
variable {S S':Nat → Prop} {β:Key → Option Nat} {H H':Nat → Option (List Value)} {w w':World}
theorem mW {f:Fl} {c:List Value} (hf:f.nopin = true):nQ H f c:=fun k hk=>by rw [A0b hf] at hk;cases hk
theorem cB:∀ {t:Ty} {k:Key} {f:Fl} {x:t.D} {c:List Value},f.nopin = true → zP S β H w k t f x c → zP S β H' w k t f x c
 | .int _,_,_,_,_,hf,h=>by simp only [zP] at h ⊢;exact ⟨mW hf,h.2⟩
 | .bool,_,_,_,_,hf,h=>by simp only [zP] at h ⊢;exact ⟨mW hf,h.2⟩
 | .str,_,_,_,_,hf,h=>by simp only [zP] at h ⊢;exact ⟨mW hf,h.2⟩
 | .fn,_,_,_,_,hf,h=>by simp only [zP] at h ⊢;exact ⟨mW hf,h.2⟩
 | .unit,_,_,_,_,hf,h=>by simp only [zP] at h ⊢;exact ⟨mW hf,h.2⟩
 | .sl _,k,f,x,c,hf,h=>by
  simp only [zP] at h ⊢
  refine ⟨mW hf,?_⟩
  have h:=h.2
  rw [bN hf] at h ⊢
  cases f with
  | own e=>
   obtain ⟨ad,cap,e1,e2,h⟩:=h
   refine ⟨ad,cap,e1,e2,h.imp id ?_⟩
   rintro ⟨b,o,cs,q1,q2,q3,q4,q5⟩
   exact ⟨b,o,cs,q1,q2,q3,q4,fun i y hy=>cB hf (q5 i y hy)⟩
  | _=>exact h
 | .ptr _,k,f,x,c,hf,h=>by
  simp only [zP] at h ⊢
  refine ⟨mW hf,?_⟩
  have h:=h.2
  rw [bN hf] at h ⊢
  cases f with
  | own e=>
   obtain ⟨b,cs,q1,q2,q3,q4,q5⟩:=h
   exact ⟨b,cs,q1,q2,q3,q4,cB hf q5⟩
  | _=>exact h
 | .arr _ _,k,f,x,c,hf,h=>by
  simp only [zP] at h ⊢
  refine ⟨mW hf,?_⟩
  have h:=h.2
  rw [bN hf] at h ⊢
  cases f with
  | ar e=>exact ⟨h.1,h.2.1,fun i y hy=>cB hf (h.2.2 i y hy)⟩
  | _=>exact h
 | .pair _ _,k,f,x,c,hf,h=>by
  simp only [zP] at h ⊢
  refine ⟨mW hf,?_⟩
  have h:=h.2
  rw [bN hf] at h ⊢
  cases f with
  | pr e1 e2=>
   simp only [Fl.nopin,Bool.and_eq_true] at hf
   exact ⟨cB hf.1 h.1,cB hf.2 h.2⟩
  | _=>exact h
theorem dO:∀ {t:Ty},rY t .sh = true → A1v t = true
 | .int _,_ | .bool,_ | .str,_ | .unit,_=>rfl
 | .arr _ t,h=>by simp only [rY,Fl.a] at h;simp only [A1v];exact dO h
 | .pair a b,h=>by
  simp only [rY,Fl.l,Fl.r,Bool.and_eq_true] at h
  simp only [A1v,Bool.and_eq_true];exact ⟨dO h.1,dO h.2⟩
 | .fn,h | .sl _,h | .ptr _,h=>by simp [rY] at h
theorem oO:∀ {t:Ty},rY t .gone = true → A1v t = true
 | .int _,_ | .bool,_ | .str,_ | .unit,_=>rfl
 | .arr _ t,h=>by simp only [rY,Fl.a] at h;simp only [A1v];exact oO h
 | .pair a b,h=>by
  simp only [rY,Fl.l,Fl.r,Bool.and_eq_true] at h
  simp only [A1v,Bool.and_eq_true];exact ⟨oO h.1,oO h.2⟩
 | .fn,h | .sl _,h | .ptr _,h=>by simp [rY] at h
theorem mK:∀ {t:Ty} {f:Fl} {k:Key} {x:t.D} {c:List Value},rY t f = true → zP S β H w k t f x c → zP S' β H w k t f x c
 | .int _,f,_,_,_,_,h | .bool,f,_,_,_,_,h | .str,f,_,_,_,_,h | .unit,f,_,_,_,_,h=>by
  simp only [zP] at h ⊢
  refine ⟨h.1,?_⟩
  have h:=h.2
  cases hf:f.base <;> rw [hf] at h <;> first | exact h | (simpa only [Rd] using h)
 | .fn,_,_,_,_,hc,_=>by simp [rY] at hc
 | .sl t,f,_,_,_,hc,h=>by
  cases f with
  | own e=>
   simp only [rY] at hc
   simp only [zP,Fl.base] at h ⊢
   obtain ⟨h0,ad,cap,e1,e2,h⟩:=h
   refine ⟨h0,ad,cap,e1,e2,h.imp id ?_⟩
   rintro ⟨b,o,cs,q1,q2,q3,q4,q5⟩
   exact ⟨b,o,cs,q1,q2,q3,q4,fun i y hy=>mK hc (q5 i y hy)⟩
  | _=>simp [rY] at hc
 | .ptr t,f,_,_,_,hc,h=>by
  cases f with
  | own e=>
   simp only [rY] at hc
   simp only [zP,Fl.base] at h ⊢
   obtain ⟨h0,b,cs,q1,q2,q3,q4,q5⟩:=h
   exact ⟨h0,b,cs,q1,q2,q3,q4,mK hc q5⟩
  | _=>simp [rY] at hc
 | .arr n t,f,_,x,c,hc,h=>by
  simp only [rY] at hc
  rw [AD4] at hc
  simp only [zP] at h ⊢
  refine ⟨h.1,?_⟩
  have h:=h.2
  have rd:A1v t = true → Rd S w (.arr n t) x c → Rd S' w (.arr n t) x c:=fun hs=>aV (t:=.arr n t) hs
  cases hf:f.base with
  | ar e=>
   rw [hf] at h hc
   exact ⟨h.1,h.2.1,fun i y hy=>mK hc (h.2.2 i y hy)⟩
  | gone=>rw [hf] at h;exact h
  | sh=>rw [hf] at h hc;exact rd (dO hc) h
  | own e=>rw [hf] at h hc;exact rd (oO hc) h
  | pr e1 e2=>rw [hf] at h hc;exact rd (oO hc) h
  | pin k e=>exact absurd hf zQ
 | .pair a b,f,_,x,c,hc,h=>by
  simp only [rY,Bool.and_eq_true] at hc
  rw [cD,cR] at hc
  simp only [zP] at h ⊢
  refine ⟨h.1,?_⟩
  have h:=h.2
  have rd:A1v a = true ∧ A1v b = true → Rd S w (.pair a b) x c → Rd S' w (.pair a b) x c:=fun hs=>aV (t:=.pair a b) (by simp [A1v,hs.1,hs.2])
  cases hf:f.base with
  | pr e1 e2=>
   rw [hf] at h hc
   exact ⟨mK hc.1 h.1,mK hc.2 h.2⟩
  | gone=>rw [hf] at h;exact h
  | sh=>rw [hf] at h hc;exact rd ⟨dO hc.1,dO hc.2⟩ h
  | own e=>rw [hf] at h hc;exact rd ⟨oO hc.1,oO hc.2⟩ h
  | ar e=>rw [hf] at h hc;exact rd ⟨oO hc.1,oO hc.2⟩ h
  | pin k e=>exact absurd hf zQ
end
def Ac5 (P:Program) (f:FuncId) (args:Array Value) (w:World) (R:Value → World → Prop):Prop:=
 (∃ fn,P.funcs[f]? = some fn ∧ (fn.name == "runtime.NumGoroutine") = false ∧ fn.body.isNone = false ∧ Calls P f args w fun | .returned v,w'=>R v w' | _,_=>False) ∨
 ∃ v w',(callFunc f args).run P w = .ok (.value v) w' ∧ R v w'
theorem Ac5.mono {P:Program} {f:FuncId} {args:Array Value} {w:World} {R R':Value → World → Prop} (h:Ac5 P f args w R) (hr:∀ v w',R v w' → R' v w'):Ac5 P f args w R':=by
 rcases h with ⟨fn,h1,h2,h3,h4⟩ | ⟨v,w',h1,h2⟩
 ·exact .inl ⟨fn,h1,h2,h3,h4.mono fun e w' he=>by cases e <;> first | exact hr _ _ he | exact he⟩
 ·exact .inr ⟨v,w',h1,hr _ _ h2⟩
section
variable (S:Nat → Prop) (β:Key → Option Nat) (w:World)
def tJ:List Mode → List Dyn → List (List Value) → Nat → Prop
 | [],[],[],_=>True
 | .ro t :: ms,d :: ds,c :: cs,i=>d.t = t ∧ Rd S w d.t d.x c ∧ tJ ms ds cs (i + 1)
 | .mv t f :: ms,d :: ds,c :: cs,i=>d.t = t ∧ f.nopin = true ∧ zP S β noH w [i] d.t f d.x c ∧ tJ ms ds cs (i + 1)
 | .io t f fo _ _ :: ms,d :: ds,c :: cs,i=>d.t = t ∧ (f.nopin = true ∧ fo.nopin = true) ∧ zP S β noH w [i] d.t f d.x c ∧ tJ ms ds cs (i + 1)
 | _,_,_,_=>False
def yE:List Dyn → List (List Value) → List Value
 | d :: ds,c :: cs=>yA d.t c :: yE ds cs
 | _,_=>[]
def AR7:List Mode → List (List Value) → Nat → (t:Ty) → t.D → Prop
 | [],[],_,_,_=>True
 | .io t _ fo _ _ :: ms,c :: cs,i,.pair a b,x=>a = t ∧ zP S β noH w [2 * i + 1] a fo x.1 c ∧ AR7 ms cs (i + 1) b x.2
 | .ro _ :: ms,_ :: cs,i,t,x=>AR7 ms cs (i + 1) t x
 | .mv _ _ :: ms,_ :: cs,i,t,x=>AR7 ms cs (i + 1) t x
 | _,_,_,_,_=>False
def oX:Nat → Nat → (t:Ty) → Fl → t.D → List (List Value) → Prop
 | 0,_,_,_,_,[]=>True
 | n + 1,k,.pair a b,f,x,c :: cs=>zP S β noH w [2 * k] a f.l x.1 c ∧ oX n (k + 1) b f.r x.2 cs
 | _,_,_,_,_,_=>False
end
def lL:Nat → Ty → List (List Value) → List Value
 | n + 1,.pair a b,c :: cs=>yA a c :: lL n b cs
 | _,_,_=>[]
def Ag3:List Value → Value
 | [v]=>v
 | vs=>.tuple vs.toArray
def Ret (c:FCfg) (x:c.rt.D) (cs:List (List Value)) (w:World) (S:Nat → Prop) (β:Key → Option Nat) (v:Value) (w':World):Prop:=
 ∃ S' β' crs,Sane w' S' β' ∧ Step w S β w' S' β' ∧ oX S' β' w' c.nres 0 c.rt c.rf x crs ∧ v = Ag3 (lL c.nres c.rt crs) ∧ AR7 S' β' w' c.modes cs 0 (A2z c.nres c.rt) (BQ6 c.nres c.rt x)
def BW0 (E:Env) (f:FuncId) (ds:List Dyn) (x:(E.cfg f).rt.D):Prop:=
 ∀ (w:World) (S:Nat → Prop) (β:Key → Option Nat) (cs:List (List Value)),Sane w S β → tJ S β w (E.cfg f).modes ds cs 0 →
  Ac5 E.P f (yE ds cs).toArray w (Ret (E.cfg f) x cs w S β)
def Aw6 (E:Env) (R:Run E):Prop:=∀ f ds x,R f ds = some x → BW0 E f ds x
end Go.Rf

end
section
namespace Go.Rf
set_option linter.unusedSectionVars false
variable [T:Laid]
section
variable {P:Program} {H:Nat → Option (List Value)} {N:Nat} {g g' G σ:yB} {V V' V0:Nat → Option Value} {w w':World} {S S':Nat → Prop} {β β':Key → Option Nat} {a:Act} {o:Oper}
variable {E:Env} {gv:yB} {us:List Up}
structure HeldIo (N:Nat) (w:World) (G:yB) (V V0:Nat → Option Value) (x:Operand) (t:Ty) (f fo:Fl) (d:Dyn) (o:Io) (k:Nat):Prop where
 np:f.nopin = true ∧ fo.nopin = true
 at_:∃ d0:Dat,xA o.p o.e.t o.e.f o.e.x = some d0 ∧ d0.t = t ∧ d0.f.base = f ∧ d = ⟨d0.t,d0.x⟩ ∧
  ∀ cr L c,V0 o.r = some (yA o.e.t cr) → cr.length = o.e.t.size → uH w o.e.t (.reg cr) o.p = some (d0.t,L) → zF w d0.t.size L = some c → evl V0 x = some (yA d0.t c)
 ne:f.base ≠ .gone
 inb:inB o.p o.e.t o.e.x
 sv:(G (N + k)).sv = .dat o.e
 lt:o.r < N
 val:V (N + k) = V0 o.r
def iF (N:Nat) (w:World) (G:yB) (V V0:Nat → Option Value):List Mode → List Operand → List (Option Dyn) → List Io → Nat → Prop
 | [],[],[],[],_=>True
 | .ro _ :: ms,_ :: xs,none :: hs,rs,k=>iF N w G V V0 ms xs hs rs (k + 1)
 | .mv t f :: ms,x :: xs,some d :: hs,rs,k=>d.t = t ∧ f.nopin = true ∧ (G (N + k)).sv = .dat ⟨d.t,d.x,f⟩ ∧ V (N + k) = evl V0 x ∧ iF N w G V V0 ms xs hs rs (k + 1)
 | .io t f fo _ _ :: ms,x :: xs,some d :: hs,o :: rs,k=>HeldIo N w G V V0 x t f fo d o k ∧ iF N w G V V0 ms xs hs rs (k + 1)
 | _,_,_,_,_=>False
theorem BL6 {i:Nat} {u:Up} (h:g i = g' i):(g.up u) i = (g'.up u) i:=by
 by_cases e:i = u.slot
 ·subst e;rw [mO,mO,h]
 ·rw [qL e,qL e,h]
theorem A24 {i:Nat}:∀ {us:List Up} {g g':yB},g i = g' i → (g.ups us) i = (g'.ups us) i
 | [],_,_,h=>h
 | u :: us,_,_,h=>by simp only [yB.ups];exact A24 (BL6 h)
theorem A4b {i:Nat}:∀ {us:List Up} {g:yB},(∀ u ∈ us,u.slot ≠ i) → (g.ups us) i = g i
 | [],_,_=>rfl
 | u :: us,g,h=>by
  simp only [yB.ups]
  rw [A4b fun v hv=>h v (by simp [hv]),qL (fun e=>h u (by simp) e.symm)]
theorem Sub.hand {n:Nat} {d:Dat} (h:Sub g G) (hn:(g n).sv = .dead):Sub g (upN G n d):=fun i=>by
 by_cases e:i = n
 ·subst e;exact .inl hn
 ·exact (h i).imp id fun h=>by rw [fN e];exact h
theorem Sub.rfl':Sub g g:=fun _=>.inr rfl
theorem Rel.weakenHand {r:Nat} {e:Dat} {f:Fl} (h:Rel H N g V w S β) (he:(g r).sv = .dat e) (hf:Fl.le f e.f = true):
  Rel H N (upN g r ⟨e.t,e.x,f⟩) V w (Bh1 S β r e.t f) (A8T β r e.t f):=by
 refine Rel.put h (h.sane.pub r e.t f) (fun b hb=>⟨.inl hb,rfl⟩) (fun j s b hj _ hb=>⟨by simp [A8T,hj,hb],rfl⟩) (fun _ _=>rfl) ?_
 obtain ⟨c,hv,hV⟩:=h.dat he
 refine ⟨c,?_,hV⟩
 refine AF8 (fun b hb=>⟨.inl hb,rfl⟩) hf (fun s b hb=>⟨rfl,fun ho=>?_,fun ho=>.inr ⟨s,hb,ho⟩⟩) hv
 simp only [List.cons_append,List.nil_append] at hb ⊢
 simp [A8T,ho,hb]
theorem AN3:∀ {p q:List PS} {t:Ty} {x:t.D},inB (p ++ q) t x → inB p t x
 | [],_,_,_,_=>by simp [inB]
 | .fst :: p,q,.pair _ _,x,h=>by simp only [List.cons_append,inB] at h ⊢;exact AN3 (p:=p) h
 | .snd :: p,q,.pair _ _,x,h=>by simp only [List.cons_append,inB] at h ⊢;exact AN3 (p:=p) h
 | .der :: p,q,.ptr _,x,h=>by simp only [List.cons_append,inB] at h ⊢;exact AN3 (p:=p) h
 | .idx i :: p,q,.arr _ _,x,h=>by simp only [List.cons_append,inB] at h ⊢;exact ⟨h.1,AN3 (p:=p) h.2⟩
 | .elm i :: p,q,.sl _,x,h=>by simp only [List.cons_append,inB] at h ⊢;exact ⟨h.1,AN3 (p:=p) h.2⟩
 | .fst :: p,q,.int _,_,h | .fst :: p,q,.bool,_,h | .fst :: p,q,.str,_,h | .fst :: p,q,.fn,_,h | .fst :: p,q,.unit,_,h | .fst :: p,q,.sl _,_,h | .fst :: p,q,.ptr _,_,h | .fst :: p,q,.arr _ _,_,h=>by simp [inB] at h
 | .snd :: p,q,.int _,_,h | .snd :: p,q,.bool,_,h | .snd :: p,q,.str,_,h | .snd :: p,q,.fn,_,h | .snd :: p,q,.unit,_,h | .snd :: p,q,.sl _,_,h | .snd :: p,q,.ptr _,_,h | .snd :: p,q,.arr _ _,_,h=>by simp [inB] at h
 | .der :: p,q,.int _,_,h | .der :: p,q,.bool,_,h | .der :: p,q,.str,_,h | .der :: p,q,.fn,_,h | .der :: p,q,.unit,_,h | .der :: p,q,.sl _,_,h | .der :: p,q,.pair _ _,_,h | .der :: p,q,.arr _ _,_,h=>by simp [inB] at h
 | .idx _ :: p,q,.int _,_,h | .idx _ :: p,q,.bool,_,h | .idx _ :: p,q,.str,_,h | .idx _ :: p,q,.fn,_,h | .idx _ :: p,q,.unit,_,h | .idx _ :: p,q,.sl _,_,h | .idx _ :: p,q,.pair _ _,_,h | .idx _ :: p,q,.ptr _,_,h=>by simp [inB] at h
 | .elm _ :: p,q,.int _,_,h | .elm _ :: p,q,.bool,_,h | .elm _ :: p,q,.str,_,h | .elm _ :: p,q,.fn,_,h | .elm _ :: p,q,.unit,_,h | .elm _ :: p,q,.arr _ _,_,h | .elm _ :: p,q,.pair _ _,_,h | .elm _ :: p,q,.ptr _,_,h=>by simp [inB] at h
theorem BN4 {x:Operand} {q:Pl} {e d:Dat} (h:Rel H N g V w S β) (hr:A8W g x (sv g x) = some q) (he:(g q.1).sv = .dat e) (hg:xA q.2 e.t e.f e.x = some d):
  inB q.2 e.t e.x ∧ ∀ cr L c,V q.1 = some (yA e.t cr) → cr.length = e.t.size → uH w e.t (.reg cr) q.2 = some (d.t,L) → zF w d.t.size L = some c → evl V x = some (yA d.t c):=by
 cases hx:sv g x with
 | dat e'=>
  rw [hx] at hr
  simp only [A8W] at hr
  split at hr
  ·simp only [Option.some.injEq] at hr;subst hr
   simp only [xA,Option.some.injEq] at hg;subst hg
   refine ⟨by simp [inB],fun cr L c h1 h2 h3 h4=>?_⟩
   simp only [uH,Option.some.injEq,Prod.mk.injEq,true_and] at h3
   subst h3
   obtain ⟨rfl,_⟩:=As1 h4
   exact h1
  ·cases hr
 | als r' p c' s=>
  rw [hx] at hr
  obtain ⟨i,rfl,hi⟩:=tH hx (by simp) (by simp) (by simp)
  simp only [A8W] at hr
  split at hr
  ·rename_i hok
   simp only [Option.some.injEq] at hr;subst hr
   obtain ⟨_,hb,_,cr,L,c2,k1,k2,k3,k4,k5,k6,k7⟩:=h.als hi hok he hg
   refine ⟨hb,fun cr' L' c h1 h2 h3 h4=>?_⟩
   have:=tK (Option.some.inj (k1.symm.trans h1)) k2 h2
   subst this
   rw [k4] at h3
   simp only [Option.some.injEq,Prod.mk.injEq,true_and] at h3
   subst h3
   rw [k5] at h4
   simp only [Option.some.injEq] at h4
   subst h4
   exact k7
  ·cases hr
 | adr r' p c' s=>
  rw [hx] at hr
  obtain ⟨i,rfl,hi⟩:=tH hx (by simp) (by simp) (by simp)
  simp only [A8W] at hr
  split at hr
  ·rename_i hok
   split at hr
   ·rename_i q' hrev
    simp only [Option.some.injEq] at hr;subst hr
    have hp:p = q'.reverse ++ [.der]:=by have:=congrArg List.reverse hrev;simpa using this
    subst hp
    have hs:=h.slots i
    rw [hi] at hs
    obtain ⟨_,_,_,hs⟩:=hs
    obtain ⟨cr,t,b,o,k1,k2,k3,k4,k5,_⟩:=hs hok e he
    refine ⟨AN3 k5,fun cr' L c h1 h2 h3 h4=>?_⟩
    have:=tK (Option.some.inj (k1.symm.trans h1)) k2 h2
    subst this
    rw [iU h3] at k3
    simp only [evl]
    rw [k4]
    obtain ⟨dt,dx,df⟩:=d
    cases dt with
    | ptr τ=>
     simp only [Ty.size] at h4
     simp only [uH,wA,h4] at k3
     split at k3
     ·rename_i t' L' he'
      simp only [Option.some.injEq,Prod.mk.injEq] at k3
      obtain ⟨rfl,rfl⟩:=k3
      split at he'
      ·rename_i b' hq
       simp only [Option.some.injEq,Prod.mk.injEq,Loc.mem.injEq] at he' hq
       obtain ⟨_,rfl,rfl⟩:=he'
       subst hq
       rfl
      ·cases he'
     ·cases k3
    | _=>simp [uH,wA] at k3
   ·cases hr
  ·cases hr
 | _=>rw [hx] at hr;simp [A8W] at hr
theorem Bb9 {x:Operand} {q:Pl} (hs:Sub g G) (h:A8W g x (sv g x) = some q) (hd:(g q.1).sv ≠ .dead):A8W G x (sv G x) = some q:=by
 cases hx:sv g x with
 | dat e=>rw [hs.sv hx (by simp)];rw [hx] at h;exact h
 | als r' p c s=>
  rw [hs.sv hx (by simp)];rw [hx] at h
  simp only [A8W] at h ⊢
  split at h
  ·rename_i hok
   simp only [Option.some.injEq] at h;subst h
   rw [Sub.okA (hs.get rfl hd),hok];rfl
  ·cases h
 | adr r' p c s=>
  rw [hs.sv hx (by simp)];rw [hx] at h
  simp only [A8W] at h ⊢
  split at h
  ·rename_i hok
   split at h
   ·rename_i q' hrev
    simp only [Option.some.injEq] at h;subst h
    rw [Sub.okB (hs.get rfl hd),hok];rfl
   ·cases h
  ·cases h
 | _=>rw [hx] at h;simp [A8W] at h
theorem A4Z {x:Operand} (hD:yK N g) (hx:sv g x ≠ .dead) (hV:∀ i,i < N → V i = V' i):evl V x = evl V' x:=by
 cases x with
 | tmp s=>exact hV s (hD.lt hx)
 | _=>rfl
theorem AV9 {share:Bool}:∀ {ms:List Mode} {xs:List Operand} {g:yB} {p:Prep} {k:Nat} {V:Nat → Option Value} {G:yB} {S:Nat → Prop} {β:Key → Option Nat},
  Rel H N G V w S β → Sub g G → yK N g → (∀ i,N + k ≤ i → (G i).sv = .dead) → (∀ i,i < N → V i = V0 i) → AR5 share ms xs g = some p →
  ∃ G' V' S' β',Rel H N G' V' w S' β' ∧ Step w S β w S' β' ∧ Sub p.g G' ∧ yK N p.g ∧ (∀ i,i < N → G' i = (G.ups p.ups) i) ∧ (∀ i,i < N + k → V' i = V i) ∧
   (∀ i,N ≤ i → i < N + k → G' i = G i) ∧ iF N w G' V' V0 ms xs p.hands p.ios k ∧ ∀ u ∈ p.ups,u.slot < N
 | [],[],g,p,k,V,G,S,β,h,hs,hD,hd,hV,hp=>by
  simp only [AR5,Option.some.injEq] at hp;subst hp
  exact ⟨G,V,S,β,h,.refl,hs,hD,fun _ _=>rfl,fun _ _=>rfl,fun _ _ _=>rfl,by simp [iF],by simp⟩
 | [],_ :: _,_,_,_,_,_,_,_,_,_,_,_,_,hp=>by simp [AR5] at hp
 | _ :: _,[],_,_,_,_,_,_,_,_,_,_,_,_,hp=>by simp [AR5] at hp
 | m :: ms,x :: xs,g,p,k,V,G,S,β,h,hs,hD,hd,hV,hp=>by
  simp only [AR5] at hp
  split at hp
  ·rename_i hnd us rs ho
   obtain ⟨p',hp',rfl⟩:=Option.map_eq_some_iff.1 hp
   have go:∀ (G1:yB) (V1:Nat → Option Value) (S1:Nat → Prop) (β1:Key → Option Nat),Rel H N G1 V1 w S1 β1 → Step w S β w S1 β1 → Sub (g.ups us) G1 → (∀ u ∈ us,u.slot < N) →
     (∀ i,i ≠ N + k → G1 i = (G.ups us) i) → (∀ i,i ≠ N + k → V1 i = V i) →
     (∀ (G':yB) (V':Nat → Option Value),G' (N + k) = G1 (N + k) → V' (N + k) = V1 (N + k) → iF N w G' V' V0 ms xs p'.hands p'.ios (k + 1) → iF N w G' V' V0 (m :: ms) (x :: xs) (hnd :: p'.hands) (rs ++ p'.ios) k) →
     ∃ G' V' S' β',Rel H N G' V' w S' β' ∧ Step w S β w S' β' ∧ Sub p'.g G' ∧ yK N p'.g ∧ (∀ i,i < N → G' i = (G.ups (us ++ p'.ups)) i) ∧ (∀ i,i < N + k → V' i = V i) ∧
      (∀ i,N ≤ i → i < N + k → G' i = G i) ∧ iF N w G' V' V0 (m :: ms) (x :: xs) (hnd :: p'.hands) (rs ++ p'.ios) k ∧ ∀ u ∈ us ++ p'.ups,u.slot < N:=by
    intro G1 V1 S1 β1 h1 hst hs1 hlt hG hV1 hhd
    have hfar:∀ i,N ≤ i → (G.ups us) i = G i:=fun i hi=>A4b fun u hu e=>by have:=hlt u hu;omega
    obtain ⟨G',V',S',β',r1,r2,r3,r4,r5,r6,r7,r8,r9⟩:=AV9 (k:=k + 1) h1 hs1 (hD.ups hlt) (fun i hi=>by rw [hG i (by omega),hfar i (by omega)];exact hd i (by omega))
     (fun i hi=>by rw [hV1 i (by omega)];exact hV i hi) hp'
    refine ⟨G',V',S',β',r1,hst.trans r2,r3,r4,fun i hi=>?_,fun i hi=>?_,fun i h1 h2=>?_,hhd G' V' (r7 _ (by omega) (by omega)) (r6 _ (by omega)) r8,fun u hu=>?_⟩
    ·rw [r5 i hi,xB];exact A24 (hG i (by omega))
    ·rw [r6 i (by omega),hV1 i (by omega)]
    ·rw [r7 i h1 (by omega),hG i (by omega),hfar i h1]
    ·rcases List.mem_append.1 hu with hu | hu
     ·exact hlt u hu
     ·exact r9 u hu
   have hgn:(g (N + k)).sv = .dead:=hD _ (by omega)
   have hGn:(G (N + k)).sv = .dead:=hd _ (Nat.le_refl _)
   cases m with
   | ro t=>
    simp only [A6C] at ho
    have plain:(none,[],[]) = (hnd,us,rs) → ∃ G' V' S' β',Rel H N G' V' w S' β' ∧ Step w S β w S' β' ∧ Sub p'.g G' ∧ yK N p'.g ∧ (∀ i,i < N → G' i = (G.ups (us ++ p'.ups)) i) ∧ (∀ i,i < N + k → V' i = V i) ∧
      (∀ i,N ≤ i → i < N + k → G' i = G i) ∧ iF N w G' V' V0 (.ro t :: ms) (x :: xs) (hnd :: p'.hands) (rs ++ p'.ios) k ∧ ∀ u ∈ us ++ p'.ups,u.slot < N:=fun e=>by
     simp only [Prod.mk.injEq] at e
     obtain ⟨rfl,rfl,rfl⟩:=e
     exact go G V S β h .refl hs (by simp) (fun _ _=>rfl) (fun _ _=>rfl) (fun G' V' _ _ hh=>hh)
    split at ho
    ·split at ho
     ·simp only [Option.some.injEq] at ho;exact plain ho
     ·split at ho
      ·rename_i d hdat
       obtain ⟨us',hpub,e⟩:=Option.map_eq_some_iff.1 ho
       simp only [Prod.mk.injEq] at e
       obtain ⟨rfl,rfl,rfl⟩:=e
       obtain ⟨hpub',hsub',_⟩:=cO hs hpub
       obtain ⟨_,_,halive⟩:=cO Sub.rfl' hpub
       obtain ⟨S1,β1,c,q1,q2,_,_⟩:=AA6 h hpub' (tQ hs hdat)
       exact go _ V S1 β1 q1 q2 hsub' (fun u hu=>hD.lt (halive u hu)) (fun _ _=>rfl) (fun _ _=>rfl) (fun G' V' _ _ hh=>hh)
      ·cases ho
    ·simp only [Option.some.injEq] at ho;exact plain ho
   | mv t f=>
    simp only [A6C] at ho
    split at ho
    ·rename_i d us' ht
     split at ho
     ·rename_i hc
      simp only [Option.some.injEq,Prod.mk.injEq] at ho
      obtain ⟨rfl,rfl,rfl⟩:=ho
      simp only [Bool.and_eq_true,decide_eq_true_eq] at hc
      obtain ⟨⟨hdt,hle⟩,hnp⟩:=hc
      obtain ⟨ht',hsub'⟩:=bZ hs ht
      have hlt:∀ u ∈ us',u.slot < N:=fun u hu=>hD.lt (eN ht u hu)
      obtain ⟨S1,β1,c,q1,q2,q3,q4⟩:=eU (n:=N + k) h ht' hGn (by omega)
      have q5:=q1.weakenHand fS hle
      have hdn:((g.ups us') (N + k)).sv = .dead:=hD.ups hlt _ (by omega)
      refine go _ _ _ _ q5 (q2.trans (.pub _ _ _)) ((hsub'.hand hdn).hand hdn) hlt (fun i hi=>by rw [fN hi,fN hi]) (fun i hi=>by simp [upd,hi]) ?_
      intro G' V' e1 e2 hh
      refine ⟨hdt,hnp,by rw [e1];exact fS,?_,hh⟩
      rw [e2,← A4Z hD (fun e=>by rw [e] at ht;simp [take] at ht) hV,q3];simp [upd]
     ·cases ho
    ·cases ho
   | io t f fo sl pa=>
    simp only [A6C] at ho
    split at ho
    ·rename_i q hr
     split at ho
     ·rename_i e hdat
      split at ho
      ·rename_i d hg
       split at ho
       ·rename_i hc
        simp only [Option.some.injEq,Prod.mk.injEq] at ho
        obtain ⟨rfl,rfl,rfl⟩:=ho
        simp only [Bool.and_eq_true,decide_eq_true_eq,Bool.not_eq_true'] at hc
        obtain ⟨⟨⟨⟨hdt,hfb⟩,hnp⟩,hnp'⟩,hng⟩:=hc
        have hnb:f.base ≠ .gone:=tP hng
        have hGr:G q.1 = g q.1:=hs.get rfl (by rw [hdat];simp)
        have hGd:(G q.1).sv = .dat e:=by rw [hGr];exact hdat
        have hrN:q.1 < N:=hD.lt (i:=q.1) (by rw [hdat];simp)
        have hrn:N + k ≠ q.1:=by omega
        obtain ⟨hinb,hval⟩:=BN4 h (Bb9 hs hr (by rw [hdat];simp)) hGd hg
        obtain ⟨c,hvr,hVr⟩:=h.dat hGd
        have q1:Rel H N (G.up (.put q.1 .dead)) V w S β:=h.kill fun _ _=>rfl
        have hd1:((G.up (.put q.1 .dead)) q.1).sv = .dead:=by rw [show G.up (.put q.1 .dead) q.1 = _ from mO (u:=.put q.1 .dead)];rfl
        have hd2:((G.up (.put q.1 .dead)) (N + k)).sv = .dead:=by rw [qL (u:=.put q.1 .dead) hrn];exact hGn
        have q2:=(q1.rekey [] hd1 hd2).hand (n:=N + k) (d:=e) (c:=c) (oZ hvr)
        have hsx:sv g x ≠ .dead:=fun e=>by rw [e] at hr;simp [A8W] at hr
        have hlt:∀ u ∈ [Up.put q.1 .dead],u.slot < N:=fun u hu=>by rw [List.mem_singleton.1 hu];exact hrN
        have hdn:((g.ups [Up.put q.1 .dead]) (N + k)).sv = .dead:=hD.ups hlt _ (by omega)
        have hsub1:Sub (g.ups [Up.put q.1 .dead]) (G.ups [Up.put q.1 .dead]):=hs.upD
        refine go _ _ _ _ q2 (.rekey _ _) (hsub1.hand hdn) hlt (fun i hi=>by rw [fN hi];rfl) (fun i hi=>by simp [upd,hi]) ?_
        intro G' V' e1 e2 hh
        have hx0:evl V x = evl V0 x:=A4Z hD hsx hV
        exact ⟨⟨⟨hnp,hnp'⟩,⟨d,hg,hdt,hfb,rfl,fun cr L c h1 h2 h3 h4=>by rw [← hx0];exact hval cr L c (by rw [hV _ hrN];exact h1) h2 h3 h4⟩,hnb,hinb,by rw [e1];exact fS,hrN,by rw [e2,← hV _ hrN,hVr];simp [upd]⟩,hh⟩
       ·cases ho
      ·cases ho
     ·cases ho
    ·cases ho
  ·cases hp
end
end Go.Rf

end
section
namespace Go.Rf
set_option linter.unusedSectionVars false
variable [T:Laid]
section
variable {P:Program} {H:Nat → Option (List Value)} {N:Nat} {g g' G σ:yB} {V V' V0:Nat → Option Value} {w w':World} {S S':Nat → Prop} {β β':Key → Option Nat} {a:Act} {o:Oper}
variable {E:Env} {gv:yB} {us:List Up}
theorem Aa2:∀ {rs:List (Nat × Nat)} {cs:FCaps},bP g rs = some cs → ∀ x ∈ rs,(g x.1).sv ≠ .dead
 | [],_,_=>by simp
 | (r,s) :: rs,cs,h=>by
  simp only [bP] at h
  intro x hx
  split at h
  ·rename_i he
   split at h
   ·obtain ⟨cs',h,_⟩:=Option.map_eq_some_iff.1 h
    rcases List.mem_cons.1 hx with rfl | hx
    ·simp [he]
    ·exact Aa2 h x hx
   ·cases h
  ·rename_i he
   split at h
   ·obtain ⟨cs',h,_⟩:=Option.map_eq_some_iff.1 h
    rcases List.mem_cons.1 hx with rfl | hx
    ·simp [he]
    ·exact Aa2 h x hx
   ·cases h
  ·cases h
theorem A8G {x:Operand} {d:Dat} (h:yV g (sv g x) = some d):∀ r ∈ fJ g x (sv g x),(g r).sv ≠ .dead:=by
 cases hx:sv g x with
 | dat e=>
  simp only [fJ]
  split
  ·simp
  ·split
   ·rename_i s
    intro r hr
    rw [List.mem_singleton.1 hr]
    have:(g s).sv = .dat e:=hx
    rw [this];simp
   ·simp
 | als r p c s=>
  simp only [fJ]
  split
  ·rename_i d hd
   split
   ·simp
   ·intro r' hr
    rw [List.mem_singleton.1 hr]
    obtain ⟨e,he,_⟩:=gR hd
    rw [he];simp
  ·simp
 | pend r p c s u e=>
  rw [hx] at h
  simp only [yV] at h
  split at h
  ·split at h
   ·rename_i e' he
    intro r' hr
    simp only [fJ,List.mem_append,List.mem_singleton] at hr
    rcases hr with hr | rfl
    ·split at hr
     ·rename_i i
      rw [List.mem_singleton.1 hr]
      have:(g i).sv = _:=hx
      rw [this];simp
     ·cases hr
    ·rw [he];simp
   ·cases h
  ·cases h
 | clo f rs=>
  rw [hx] at h
  simp only [yV,Option.map_eq_some_iff] at h
  obtain ⟨cs,hc,_⟩:=h
  intro r hr
  simp only [fJ,List.mem_map] at hr
  obtain ⟨y,hy,rfl⟩:=hr
  exact Aa2 hc y hy
 | _=>simp [fJ]
theorem A83 {x:Operand} {d:Dat} (hs:Sub g G) (h:yV g (sv g x) = some d):fJ G x (sv G x) = fJ g x (sv g x):=by
 have hn:sv g x ≠ .dead:=fun e=>by rw [e] at h;simp [yV] at h
 rw [hs.sv rfl hn]
 cases hx:sv g x with
 | als r p c s=>
  rw [hx] at h
  simp only [yV] at h
  split at h
  ·split at h
   ·rename_i d' hd
    simp only [fJ]
    rw [hd,(hs.atP hd).1]
   ·cases h
  ·cases h
 | _=>rfl
structure BackIo (H:Nat → Option (List Value)) (N:Nat) (S:Nat → Prop) (β:Key → Option Nat) (w:World) (V0:Nat → Option Value) (t:Ty) (fo:Fl) (c:List Value) (o:Io) (k:Nat):Prop where
 lt:o.r < N
 np:fo.nopin = true
 at_:∃ (d0:Dat) (cr:List Value) (L:Loc),xA o.p o.e.t o.e.f o.e.x = some d0 ∧ d0.t = t ∧ d0.f.base ≠ .gone ∧ inB o.p o.e.t o.e.x ∧ V0 o.r = some (yA o.e.t cr) ∧
  zP S β H w [N + k] o.e.t o.e.f o.e.x cr ∧ uH w o.e.t (.reg cr) o.p = some (d0.t,L) ∧ zF w d0.t.size L = some c ∧ nQ H d0.f c
def lX (H:Nat → Option (List Value)) (N:Nat) (S:Nat → Prop) (β:Key → Option Nat) (w:World) (V0:Nat → Option Value):List Mode → List (List Value) → List Io → Nat → Prop
 | [],[],[],_=>True
 | .ro _ :: ms,_ :: cs,rs,k=>lX H N S β w V0 ms cs rs (k + 1)
 | .mv _ _ :: ms,_ :: cs,rs,k=>lX H N S β w V0 ms cs rs (k + 1)
 | .io t _ fo _ _ :: ms,c :: cs,o :: rs,k=>BackIo H N S β w V0 t fo c o k ∧ lX H N S β w V0 ms cs rs (k + 1)
 | _,_,_,_=>False
def Ah9:List Mode → List Io → Nat → Nat → Key
 | .io _ _ _ _ _ :: ms,o :: os,i,j=>if j = i then xP o.p else Ah9 ms os (i + 1) j
 | .ro _ :: ms,os,i,j=>Ah9 ms os (i + 1) j
 | .mv _ _ :: ms,os,i,j=>Ah9 ms os (i + 1) j
 | _,_,_,_=>[]
theorem A1L:∀ {ms:List Mode} {os:List Io} {i j:Nat},j < i → Ah9 ms os i j = []
 | .io _ _ _ _ _ :: ms,o :: os,i,j,h=>by simp only [Ah9];rw [if_neg (by omega)];exact A1L (by omega)
 | .ro _ :: ms,os,i,j,h=>by simp only [Ah9];exact A1L (by omega)
 | .mv _ _ :: ms,os,i,j,h=>by simp only [Ah9];exact A1L (by omega)
 | [],_,_,_,_=>by simp [Ah9]
 | .io _ _ _ _ _ :: _,[],_,_,_=>by simp [Ah9]
def AS6 (N:Nat) (ks:Nat → Key) (β:Key → Option Nat):Key → Option Nat
 | i :: s=>β ((N + i) :: (ks i ++ s))
 | []=>none
theorem gV {ks:Nat → Key}:∀ {ms:List Mode} {xs:List Operand} {hs:List (Option Dyn)} {rs:List Io} {k:Nat} {ds:List Dyn} {lent:List Nat},
  Rel H N G V w S β → Sub g G → yK N g → (∀ i,i < N → V i = V0 i) → iF N w G V V0 ms xs hs rs k → (∀ j,k ≤ j → ks j = Ah9 ms rs k j) → jL g ms xs hs = some (ds,lent) →
  ∃ cs:List (List Value),xs.map (evl V0 ·) = (yE ds cs).map some ∧ (∀ r ∈ lent,r < N) ∧ lX H N S β w V0 ms cs rs k ∧
   ∀ L:List Nat,(∀ r ∈ lent,r ∈ L) → tJ (A1U S β L) (AS6 N ks β) w ms ds cs k
 | [],[],[],rs,k,ds,lent,h,hs,hD,hV,hh,hk,hd=>by
  simp only [jL,Option.some.injEq,Prod.mk.injEq] at hd
  obtain ⟨rfl,rfl⟩:=hd
  refine ⟨[],by simp [yE],by simp,?_,fun L _=>by simp [tJ]⟩
  cases rs with
  | nil=>simp [lX]
  | cons _ _=>simp [iF] at hh
 | .ro t :: ms,x :: xs,none :: hs',rs,k,ds,lent,h,hs,hD,hV,hh,hk,hd=>by
  simp only [iF] at hh
  have hk':∀ j,k + 1 ≤ j → ks j = Ah9 ms rs (k + 1) j:=fun j hj=>by rw [hk j (by omega)];simp only [Ah9]
  have nilcase:∀ {τ:Ty},sv g x = .nils → t = .sl τ → ((jL g ms xs hs').map fun r=>((⟨.sl τ,([]:List τ.D)⟩:Dyn) :: r.1,r.2)) = some (ds,lent) → ∃ cs:List (List Value),(x :: xs).map (evl V0 ·) = (yE ds cs).map some ∧ (∀ r ∈ lent,r < N) ∧ lX H N S β w V0 (.ro t :: ms) cs rs k ∧
    ∀ L:List Nat,(∀ r ∈ lent,r ∈ L) → tJ (A1U S β L) (AS6 N ks β) w (.ro t :: ms) ds cs k:=by
   intro τ hx ht hq
   obtain ⟨r,hr,e⟩:=Option.map_eq_some_iff.1 hq
   subst ht
   simp only [Prod.mk.injEq] at e
   obtain ⟨rfl,rfl⟩:=e
   obtain ⟨cs,h1,h2,h3,h4⟩:=gV (k:=k + 1) h hs hD hV hh hk' hr
   refine ⟨[.slice none 0 0] :: cs,?_,h2,h3,fun L hL=>⟨rfl,?_,h4 L hL⟩⟩
   ·rcases aB (hs.sv hx (by simp)) with ⟨s,rfl,hss⟩ | rfl
    ·have:=h.slots s
     rw [hss] at this;exact this.elim
    ·simp only [List.map_cons,yE,h1];rfl
   ·simp only [Rd]
    exact ⟨none,0,rfl,Nat.le_refl _,.inl rfl⟩
  have datcase:∀ {d:Dat},yV g (sv g x) = some d → d.t = t → ((jL g ms xs hs').map fun r=>((⟨d.t,d.x⟩:Dyn) :: r.1,fJ g x (sv g x) ++ r.2)) = some (ds,lent) → ∃ cs:List (List Value),(x :: xs).map (evl V0 ·) = (yE ds cs).map some ∧ (∀ r ∈ lent,r < N) ∧ lX H N S β w V0 (.ro t :: ms) cs rs k ∧
    ∀ L:List Nat,(∀ r ∈ lent,r ∈ L) → tJ (A1U S β L) (AS6 N ks β) w (.ro t :: ms) ds cs k:=by
   intro d hx ht hq
   obtain ⟨r,hr,e⟩:=Option.map_eq_some_iff.1 hq
   simp only [Prod.mk.injEq] at e
   obtain ⟨rfl,rfl⟩:=e
   obtain ⟨cs,h1,h2,h3,h4⟩:=gV (k:=k + 1) h hs hD hV hh hk' hr
   obtain ⟨c,hc,hrd⟩:=A4v h (tQ hs hx)
   rw [A83 hs hx] at hrd
   refine ⟨c :: cs,?_,fun r hr=>?_,h3,fun L hL=>⟨ht,?_,h4 L fun r hr=>hL r (List.mem_append_right _ hr)⟩⟩
   ·simp only [List.map_cons,yE,h1]
    rw [← A4Z hD (fun e=>by rw [e] at hx;simp [yV] at hx) hV,hc]
   ·rcases List.mem_append.1 hr with hr | hr
    ·exact hD.lt (A8G hx r hr)
    ·exact h2 r hr
   ·exact zR (fun b hb=>⟨hb.imp id fun ⟨r,hr,q⟩=>⟨r,hL r (List.mem_append_left _ hr),q⟩,rfl⟩) hrd
  simp only [jL] at hd
  split at hd
  ·rename_i hx
   split at hd
   ·exact nilcase hx rfl hd
   ·cases hd
  ·split at hd
   ·rename_i d hx
    split at hd
    ·rename_i ht;exact datcase hx ht hd
    ·cases hd
   ·cases hd
 | .mv t f :: ms,x :: xs,some d :: hs',rs,k,ds,lent,h,hs,hD,hV,hh,hk,hd=>by
  simp only [iF] at hh
  have hk':∀ j,k + 1 ≤ j → ks j = Ah9 ms rs (k + 1) j:=fun j hj=>by rw [hk j (by omega)];simp only [Ah9]
  have hk0:ks k = []:=by rw [hk k (Nat.le_refl _)];simp only [Ah9];exact A1L (by omega)
  obtain ⟨h1,h2,h3,h4,hh⟩:=hh
  simp only [jL] at hd
  obtain ⟨r,hr,e⟩:=Option.map_eq_some_iff.1 hd
  simp only [Prod.mk.injEq] at e
  obtain ⟨rfl,rfl⟩:=e
  obtain ⟨cs,q1,q2,q3,q4⟩:=gV (k:=k + 1) h hs hD hV hh hk' hr
  obtain ⟨c,hv,hc⟩:=h.dat h3
  refine ⟨c :: cs,?_,q2,q3,fun L hL=>⟨h1,h2,?_,q4 L hL⟩⟩
  ·simp only [List.map_cons,yE,q1]
   rw [← h4,hc]
  ·exact cB h2 (zL (fun b hb=>⟨.inl hb,rfl⟩) (fun s b hb=>⟨by simpa [AS6,hk0] using hb,rfl⟩) hv)
 | .io t f fo sl pa :: ms,x :: xs,some d :: hs',rs,k,ds,lent,h,hs,hD,hV,hh,hk,hd=>by
  cases rs with
  | nil=>simp [iF] at hh
  | cons o rs=>
  simp only [iF] at hh
  have hk':∀ j,k + 1 ≤ j → ks j = Ah9 ms rs (k + 1) j:=fun j hj=>by rw [hk j (by omega)];simp only [Ah9];rw [if_neg (by omega)]
  have hk0:ks k = xP o.p:=by rw [hk k (Nat.le_refl _)];simp only [Ah9,if_true]
  obtain ⟨⟨hnp,⟨d0,hg,hdt,hfb,rfl,hval⟩,hne,hinb,hsv,hlt,hv0⟩,hh⟩:=hh
  simp only [jL] at hd
  obtain ⟨r,hr,e⟩:=Option.map_eq_some_iff.1 hd
  simp only [Prod.mk.injEq] at e
  obtain ⟨rfl,rfl⟩:=e
  obtain ⟨cs,q1,q2,q3,q4⟩:=gV (k:=k + 1) h hs hD hV hh hk' hr
  obtain ⟨cr,hvr,hVr⟩:=h.dat hsv
  have hl:=zU hvr
  have hV0:V0 o.r = some (yA o.e.t cr):=by rw [← hv0];exact hVr
  have hgb:d0.f.base ≠ .gone:=by
   rw [hfb]
   rw [bN hnp.1] at hne;exact hne
  obtain ⟨L,c,w1,w2,w3⟩:=A6i (L:=.reg cr) hg hinb hgb (by simp [zF,hl]) hvr
  have hev:=hval cr L c hV0 hl w1 w2
  refine ⟨c :: cs,?_,q2,⟨⟨hlt,hnp.2,d0,cr,L,hg,hdt,hgb,hinb,hV0,hvr,w1,w2,vZ w3⟩,q3⟩,fun L hL=>⟨hdt,hnp,?_,q4 L hL⟩⟩
  ·simp only [List.map_cons,yE,q1,hev]
  ·refine cB (H:=H) hnp.1 ?_
   rw [← hfb]
   exact eC (zL (fun b hb=>⟨.inl hb,rfl⟩) (fun s b hb=>⟨by simpa [AS6,hk0] using hb,rfl⟩) w3)
 | [],_ :: _,_,_,_,_,_,_,_,_,_,_,_,hd=>by simp [jL] at hd
 | [],[],_ :: _,_,_,_,_,_,_,_,_,_,_,hd=>by simp [jL] at hd
 | .ro _ :: _,[],_,_,_,_,_,_,_,_,_,_,_,hd=>by simp [jL] at hd
 | .mv _ _ :: _,[],_,_,_,_,_,_,_,_,_,_,_,hd=>by simp [jL] at hd
 | .io _ _ _ _ _ :: _,[],_,_,_,_,_,_,_,_,_,_,_,hd=>by simp [jL] at hd
 | .ro _ :: _,_ :: _,[],_,_,_,_,_,_,_,_,_,_,hd=>by simp [jL] at hd
 | .mv _ _ :: _,_ :: _,[],_,_,_,_,_,_,_,_,_,_,hd=>by simp [jL] at hd
 | .io _ _ _ _ _ :: _,_ :: _,[],_,_,_,_,_,_,_,_,_,_,hd=>by simp [jL] at hd
 | .ro _ :: _,_ :: _,some _ :: _,_,_,_,_,_,_,_,_,hh,_,_=>by simp [iF] at hh
 | .mv _ _ :: _,_ :: _,none :: _,_,_,_,_,_,_,_,_,hh,_,_=>by simp [iF] at hh
 | .io _ _ _ _ _ :: _,_ :: _,none :: _,_,_,_,_,_,_,_,_,hh,_,_=>by simp [iF] at hh
end
end Go.Rf

end
section
namespace Go.Rf
set_option linter.unusedSectionVars false
variable [T:Laid]
section
variable {P:Program} {H:Nat → Option (List Value)} {N:Nat} {g g' G σ:yB} {V V' V0:Nat → Option Value} {w w' w2:World} {S S' S2:Nat → Prop} {β β' β2:Key → Option Nat} {a:Act} {o:Oper}
variable {E:Env} {gv:yB} {us:List Up}
def dU:List Mode → List Io → Nat → Nat → Option (Nat × Key)
 | .io _ _ _ _ _ :: ms,o :: rs,i,j=>if j = o.r then some (i,xP o.p) else dU ms rs (i + 1) j
 | .ro _ :: ms,rs,i,j=>dU ms rs (i + 1) j
 | .mv _ _ :: ms,rs,i,j=>dU ms rs (i + 1) j
 | _,_,_,_=>none
theorem Ad6:∀ {ms:List Mode} {rs:List Io} {i j:Nat} {m:Nat × Key},dU ms rs i j = some m → i ≤ m.1
 | .io _ _ _ _ _ :: ms,o :: rs,i,j,m,h=>by
  simp only [dU] at h
  split at h
  ·simp only [Option.some.injEq] at h;subst h;exact Nat.le_refl _
  ·have:=Ad6 h;omega
 | .ro _ :: ms,rs,i,j,m,h=>by simp only [dU] at h;have:=Ad6 h;omega
 | .mv _ _ :: ms,rs,i,j,m,h=>by simp only [dU] at h;have:=Ad6 h;omega
 | [],_,_,_,_,h=>by simp [dU] at h
 | .io _ _ _ _ _ :: _,[],_,_,_,h=>by simp [dU] at h
theorem Aj8:∀ {ms:List Mode} {rs:List Io} {i j j':Nat} {m m':Nat × Key},dU ms rs i j = some m → dU ms rs i j' = some m' → m.1 = m'.1 → j = j'
 | .io _ _ _ _ _ :: ms,o :: rs,i,j,j',m,m',h,h',e=>by
  simp only [dU] at h h'
  split at h <;> split at h'
  ·rename_i e e';rw [e,e']
  ·simp only [Option.some.injEq] at h;subst h;have:=Ad6 h';simp only at e;omega
  ·simp only [Option.some.injEq] at h';subst h';have:=Ad6 h;simp only at e;omega
  ·exact Aj8 h h' e
 | .ro _ :: ms,rs,i,j,j',m,m',h,h',e=>by simp only [dU] at h h';exact Aj8 h h' e
 | .mv _ _ :: ms,rs,i,j,j',m,m',h,h',e=>by simp only [dU] at h h';exact Aj8 h h' e
 | [],_,_,_,_,_,_,h,_,_=>by simp [dU] at h
 | .io _ _ _ _ _ :: _,[],_,_,_,_,_,h,_,_=>by simp [dU] at h
theorem AC0:∀ {ms:List Mode} {rs:List Io} {i j:Nat} {m:Nat × Key},dU ms rs i j = some m → j ∈ rs.map Io.r
 | .io _ _ _ _ _ :: ms,o :: rs,i,j,m,h=>by
  simp only [dU] at h
  split at h
  ·rename_i e;simp [e]
  ·simp only [List.map_cons,List.mem_cons];exact .inr (AC0 h)
 | .ro _ :: ms,rs,i,j,m,h=>by simp only [dU] at h;exact AC0 h
 | .mv _ _ :: ms,rs,i,j,m,h=>by simp only [dU] at h;exact AC0 h
 | [],_,_,_,_,h=>by simp [dU] at h
 | .io _ _ _ _ _ :: _,[],_,_,_,h=>by simp [dU] at h
theorem A1j:∀ {ms:List Mode} {rs:List Io} {i j:Nat} {m:Nat × Key},dU ms rs i j = some m → Ah9 ms rs i m.1 = m.2
 | .io _ _ _ _ _ :: ms,o :: rs,i,j,m,h=>by
  simp only [dU] at h
  simp only [Ah9]
  split at h
  ·simp only [Option.some.injEq] at h;subst h;simp
  ·have:=Ad6 h;rw [if_neg (by omega)];exact A1j h
 | .ro _ :: ms,rs,i,j,m,h=>by simp only [dU] at h;simp only [Ah9];exact A1j h
 | .mv _ _ :: ms,rs,i,j,m,h=>by simp only [dU] at h;simp only [Ah9];exact A1j h
 | [],_,_,_,_,h=>by simp [dU] at h
 | .io _ _ _ _ _ :: _,[],_,_,_,h=>by simp [dU] at h
def rR:Nat → Key → Option Key
 | k,0 :: s=>some (2 * k :: s)
 | k,1 :: s=>rR (k + 1) s
 | _,_=>none
theorem cG:∀ {s:Key} {k:Nat} {q:Key},rR k s = some q → ∃ m t,q = 2 * m :: t ∧ k ≤ m
 | [],_,_,h=>by simp [rR] at h
 | 0 :: s,k,q,h=>by simp only [rR,Option.some.injEq] at h;exact ⟨k,s,h.symm,Nat.le_refl _⟩
 | 1 :: s,k,q,h=>by
  simp only [rR] at h
  obtain ⟨m,t,e,hm⟩:=cG h
  exact ⟨m,t,e,by omega⟩
 | (_ + 2) :: _,_,_,h=>by simp [rR] at h
theorem An8:∀ {s s':Key} {k:Nat} {q:Key},rR k s = some q → rR k s' = some q → s = s'
 | 0 :: s,0 :: s',k,q,h,h'=>by
  simp only [rR,Option.some.injEq] at h h'
  rw [← h'] at h;simp only [List.cons.injEq,true_and] at h;rw [h]
 | 1 :: s,1 :: s',k,q,h,h'=>by
  simp only [rR] at h h'
  rw [An8 h h']
 | 0 :: s,1 :: s',k,q,h,h'=>by
  simp only [rR,Option.some.injEq] at h h'
  obtain ⟨m,t,e,hm⟩:=cG h'
  rw [e] at h;simp only [List.cons.injEq] at h;omega
 | 1 :: s,0 :: s',k,q,h,h'=>by
  simp only [rR,Option.some.injEq] at h h'
  obtain ⟨m,t,e,hm⟩:=cG h
  rw [e] at h';simp only [List.cons.injEq] at h';omega
 | [],_,_,_,h,_=>by simp [rR] at h
 | (_ + 2) :: _,_,_,_,h,_=>by simp [rR] at h
 | _,[],_,_,_,h=>by simp [rR] at h
 | _,(_ + 2) :: _,_,_,_,h=>by simp [rR] at h
def BI3 (one:Bool) (dst:Option Nat) (io:Nat → Option (Nat × Key)) (j:Nat) (s:Key):Option Key:=
 if dst = some j then (if one then some (0 :: s) else rR 0 s) else (io j).bind fun m=>(rX m.2 s).map fun s=>(2 * m.1 + 1) :: s
theorem BJ4 {one:Bool} {dst:Option Nat} {io:Nat → Option (Nat × Key)} (hio:∀ j j' m m',io j = some m → io j' = some m' → m.1 = m'.1 → j = j') {j j':Nat} {s s' q:Key}
  (h:BI3 one dst io j s = some q) (h':BI3 one dst io j' s' = some q):j = j' ∧ s = s':=by
 unfold BI3 at h h'
 have even:∀ {s:Key},(if one = true then some (0 :: s) else rR 0 s) = some q → ∃ m t,q = 2 * m :: t:=fun {s} h=>by
  split at h
  ·simp only [Option.some.injEq] at h;exact ⟨0,s,h.symm⟩
  ·obtain ⟨m,t,e,_⟩:=cG h;exact ⟨m,t,e⟩
 have odd:∀ {j:Nat} {s:Key},((io j).bind fun m=>(rX m.2 s).map fun s=>(2 * m.1 + 1) :: s) = some q → ∃ m s2,io j = some m ∧ s = m.2 ++ s2 ∧ q = (2 * m.1 + 1) :: s2:=fun {j s} h=>by
  obtain ⟨m,h1,h2⟩:=Option.bind_eq_some_iff.1 h
  obtain ⟨s2,h3,h4⟩:=Option.map_eq_some_iff.1 h2
  exact ⟨m,s2,h1,mT.1 h3,h4.symm⟩
 split at h <;> split at h'
 ·rename_i e e'
  rw [e] at e'
  refine ⟨by simpa using e',?_⟩
  split at h
  ·simp only [Option.some.injEq] at h h'
   rw [if_pos (by assumption)] at h'
   simp only [Option.some.injEq] at h'
   rw [← h'] at h;simpa using h
  ·rw [if_neg (by assumption)] at h'
   exact An8 h h'
 ·obtain ⟨m,t,e⟩:=even h
  obtain ⟨i,s2,_,_,e'⟩:=odd h'
  rw [e] at e';simp only [List.cons.injEq] at e';omega
 ·obtain ⟨m,t,e⟩:=even h'
  obtain ⟨i,s2,_,_,e'⟩:=odd h
  rw [e] at e';simp only [List.cons.injEq] at e';omega
 ·obtain ⟨m,s2,h1,h2,e⟩:=odd h
  obtain ⟨m',s2',h1',h2',e'⟩:=odd h'
  rw [e] at e'
  simp only [List.cons.injEq] at e'
  have hj:=hio _ _ _ _ h1 h1' (by omega)
  subst hj
  rw [h1] at h1'
  simp only [Option.some.injEq] at h1'
  subst h1'
  exact ⟨rfl,by rw [h2,h2',e'.2]⟩
def Aa0 (N:Nat) (one:Bool) (dst:Option Nat) (io:Nat → Option (Nat × Key)) (β β2:Key → Option Nat):Key → Option Nat
 | j :: s=>if N ≤ j then none else
  match BI3 one dst io j s with
  | some q=>β2 q
  | none=>if dst = some j then none else match io j with
   | some m=>β ((N + m.1) :: s)
   | none=>β (j :: s)
 | []=>none
def Was (N:Nat) (io:Nat → Option (Nat × Key)) (j:Nat) (s κ:Key):Prop:=(io j = none ∧ κ = j :: s) ∨ ∃ m,io j = some m ∧ rX m.2 s = none ∧ κ = (N + m.1) :: s
theorem dH {one:Bool} {dst:Option Nat} {io:Nat → Option (Nat × Key)} {k:Key} {b:Nat} (h:Aa0 N one dst io β β2 k = some b):
  ∃ j s,k = j :: s ∧ j < N ∧ ((∃ q,BI3 one dst io j s = some q ∧ β2 q = some b) ∨ ∃ κ,Was N io j s κ ∧ β κ = some b):=by
 cases k with
 | nil=>simp [Aa0] at h
 | cons j s=>
  simp only [Aa0] at h
  split at h
  ·cases h
  ·rename_i hN
   refine ⟨j,s,rfl,by omega,?_⟩
   split at h
   ·rename_i q hq;exact .inl ⟨q,hq,h⟩
   ·rename_i hq
    split at h
    ·cases h
    ·rename_i hd
     unfold BI3 at hq
     rw [if_neg hd] at hq
     split at h
     ·rename_i m hm
      rw [hm] at hq
      simp only [Option.bind_some,Option.map_eq_none_iff] at hq
      exact .inr ⟨_,.inr ⟨m,hm,hq,rfl⟩,h⟩
     ·rename_i hm
      exact .inr ⟨_,.inl ⟨hm,rfl⟩,h⟩
theorem A9Z {one:Bool} {dst:Option Nat} {io:Nat → Option (Nat × Key)} {ks:Nat → Key} {lent:List Nat} (hio:∀ j j' m m',io j = some m → io j' = some m' → m.1 = m'.1 → j = j') (hks:∀ j m,io j = some m → ks m.1 = m.2)
  (hs:Sane w S β) (h2:Sane w2 S2 β2) (hst:Step w (A1U S β lent) (AS6 N ks β) w2 S2 β2) {S':Nat → Prop} (hS':(S' = S2 ∧ lent = []) ∨ S' = S):
  Sane w2 S' (Aa0 N one dst io β β2) ∧ Step w S β w2 S' (Aa0 N one dst io β β2):=by
 have hand:∀ {k b},AS6 N ks β k = some b → ∃ i s,β ((N + i) :: (ks i ++ s)) = some b:=fun {k b} h=>by
  cases k with
  | nil=>simp [AS6] at h
  | cons i s=>exact ⟨i,s,h⟩
 have apartK:∀ {j s κ b k},j < N → Was N io j s κ → β κ = some b → AS6 N ks β k = some b → False:=fun {j s κ b k} hj hw hb hk=>by
  obtain ⟨i,s',e⟩:=hand hk
  have:=hs.inj _ _ _ hb e
  rcases hw with ⟨_,rfl⟩ | ⟨m,hm,hst,rfl⟩
  ·simp only [List.cons.injEq] at this;omega
  ·simp only [List.cons.injEq] at this
   have hi:i = m.1:=by omega
   subst hi
   rw [hks j m hm] at this
   exact eP hst _ this.2
 have far:∀ {q b j s κ},β2 q = some b → j < N → Was N io j s κ → β κ = some b → False:=fun {q b j s κ} hq hj hw hb=>by
  rcases hst.new q b hq with ⟨k',e⟩ | e
  ·exact apartK hj hw hb e
  ·have:=hs.live _ _ hb;omega
 refine ⟨⟨fun k k' b hk hk'=>?_,fun k b hk hb=>?_,fun k b hk=>?_,fun b hb=>?_,hs.tabs fun b hb=>⟨hS'.elim (fun h=>h.1 ▸ hst.keepS b (.inl hb)) (fun h=>h ▸ hb),hst.old b (hs.liveS b hb) (fun k hk=>by obtain ⟨i,s',e⟩:=hand hk;exact hs.sep _ _ e hb)⟩⟩,⟨hst.size,fun b hb hk=>?_,fun k b hk=>?_,fun b hb=>?_,fun b hb=>?_,hst.out⟩⟩
 ·obtain ⟨j,s,rfl,hj,h⟩:=dH hk
  obtain ⟨j',s',rfl,hj',h'⟩:=dH hk'
  rcases h with ⟨q,n1,n2⟩ | ⟨κ,n0,n1⟩ <;> rcases h' with ⟨q',m1,m2⟩ | ⟨κ',m0,m1⟩
  ·have:=h2.inj _ _ _ n2 m2
   subst this
   obtain ⟨e1,e2⟩:=BJ4 hio n1 m1
   rw [e1,e2]
  ·exact (far n2 hj' m0 m1).elim
  ·exact (far m2 hj n0 n1).elim
  ·have:=hs.inj _ _ _ n1 m1
   rcases n0 with ⟨_,rfl⟩ | ⟨m,hm,_,rfl⟩ <;> rcases m0 with ⟨_,rfl⟩ | ⟨m',hm',_,rfl⟩
   ·exact this
   ·simp only [List.cons.injEq] at this;omega
   ·simp only [List.cons.injEq] at this;omega
   ·simp only [List.cons.injEq] at this
    rw [hio _ _ _ _ hm hm' (by omega),this.2]
 ·obtain ⟨j,s,rfl,hj,h⟩:=dH hk
  rcases h with ⟨q,n1,n2⟩ | ⟨κ,n0,n1⟩
  ·rcases hS' with ⟨rfl,_⟩ | rfl
   ·exact h2.sep _ _ n2 hb
   ·exact h2.sep _ _ n2 (hst.keepS b (.inl hb))
  ·rcases hS' with ⟨rfl,hl⟩ | rfl
   ·rcases hst.newS b hb with (h | ⟨r,hr,_⟩) | ⟨k',e⟩ | e
    ·exact hs.sep _ _ n1 h
    ·rw [hl] at hr;cases hr
    ·exact apartK hj n0 n1 e
    ·have:=hs.live _ _ n1;omega
   ·exact hs.sep _ _ n1 hb
 ·obtain ⟨j,s,rfl,hj,h⟩:=dH hk
  rcases h with ⟨q,n1,n2⟩ | ⟨κ,n0,n1⟩
  ·exact h2.live _ _ n2
  ·exact Nat.lt_of_lt_of_le (hs.live _ _ n1) hst.size
 ·rcases hS' with ⟨rfl,_⟩ | rfl
  ·exact h2.liveS b hb
  ·exact Nat.lt_of_lt_of_le (hs.liveS b hb) hst.size
 ·exact hst.old b hb fun k hk'=>by
   obtain ⟨i,s,e⟩:=hand hk'
   exact hk _ e
 ·obtain ⟨j,s,rfl,hj,h⟩:=dH hk
  rcases h with ⟨q,n1,n2⟩ | ⟨κ,n0,n1⟩
  ·rcases hst.new q b n2 with ⟨k',e⟩ | e
   ·obtain ⟨i,s',e⟩:=hand e
    exact .inl ⟨_,e⟩
   ·exact .inr e
  ·exact .inl ⟨_,n1⟩
 ·rcases hS' with ⟨rfl,_⟩ | rfl
  ·exact hst.keepS b (.inl hb)
  ·exact hb
 ·rcases hS' with ⟨rfl,hl⟩ | rfl
  ·rcases hst.newS b hb with (h | ⟨r,hr,_⟩) | ⟨k',e⟩ | e
   ·exact .inl h
   ·rw [hl] at hr;cases hr
   ·obtain ⟨i,s',e⟩:=hand e
    exact .inr (.inl ⟨_,e⟩)
   ·exact .inr (.inr e)
  ·exact .inl hb
theorem A2i {ks:Nat → Key} {lent:List Nat} (hs:Sane w S β) (hl:∀ r ∈ lent,r < N):Sane w (A1U S β lent) (AS6 N ks β):=by
 refine ⟨fun k k' b h h'=>?_,fun k b h hb=>?_,fun k b h=>?_,fun b hb=>?_,hs.tabs fun b hb=>⟨.inl hb,rfl⟩⟩
 ·cases k with
  | nil=>simp [AS6] at h
  | cons i s=>
   cases k' with
   | nil=>simp [AS6] at h'
   | cons i' s'=>
    have:=hs.inj _ _ _ h h'
    simp only [List.cons.injEq] at this ⊢
    have hi:i = i':=by omega
    subst hi
    exact ⟨rfl,List.append_cancel_left this.2⟩
 ·cases k with
  | nil=>simp [AS6] at h
  | cons i s=>
   rcases hb with hb | ⟨r,hr,s',hb⟩
   ·exact hs.sep _ _ h hb
   ·have:=hs.inj _ _ _ h hb
    simp only [List.cons.injEq] at this
    have:=hl r hr;omega
 ·cases k with
  | nil=>simp [AS6] at h
  | cons i s=>exact hs.live _ _ h
 ·rcases hb with hb | ⟨r,hr,s',hb⟩
  ·exact hs.liveS b hb
  ·exact hs.live _ _ hb
end
end Go.Rf

end
section
namespace Go.Rf
set_option linter.unusedSectionVars false
variable [T:Laid]
section
variable {P:Program} {H:Nat → Option (List Value)} {N:Nat} {g g' G σ:yB} {V V' V0:Nat → Option Value} {w w' w2:World} {S S' S2:Nat → Prop} {β β' β2:Key → Option Nat} {a:Act} {o:Oper}
variable {E:Env} {gv:yB} {us:List Up}
theorem An2:∀ {n k:Nat} {t:Ty} {f:Fl} {x:t.D} {cs:List (List Value)},oX S β w n k t f x cs → (lL n t cs).length = n
 | 0,_,_,_,_,[],_=>by simp [lL]
 | n + 1,k,.pair a b,f,x,c :: cs,h=>by
  simp only [oX] at h
  simp only [lL,List.length_cons,An2 h.2]
 | 0,_,_,_,_,_ :: _,h=>by simp [oX] at h
 | _ + 1,_,.pair _ _,_,_,[],h=>by simp [oX] at h
 | _ + 1,_,.int _,_,_,_,h | _ + 1,_,.bool,_,_,_,h | _ + 1,_,.str,_,_,_,h | _ + 1,_,.fn,_,_,_,h | _ + 1,_,.unit,_,_,_,h
 | _ + 1,_,.sl _,_,_,_,h | _ + 1,_,.ptr _,_,_,_,h | _ + 1,_,.arr _ _,_,_,_,h=>by simp [oX] at h
theorem A4D {vs:List Value} (h:vs.length ≠ 1):Ag3 vs = .tuple vs.toArray:=by
 match vs,h with
 | [],_=>rfl
 | [v],h=>exact absurd rfl h
 | _ :: _ :: _,_=>rfl
theorem A5t:∀ {n k:Nat} {t:Ty} {f:Fl} {x:t.D} {cs:List (List Value)} {key:Key},f.nopin = true → oX S β2 w n k t f x cs →
  (∀ s b,(rR k s).bind β2 = some b → β' (key ++ s) = some b) →
  zP S β' H w key (Ab8 n t) (As7 n f) (Bd3 n t x) cs.flatten ∧ BS5 (Ab8 n t) cs.flatten = lL n t cs
 | 0,_,t,_,_,[],_,_,_,_=>by
  simp only [Ab8,As7,Bd3,List.flatten_nil]
  exact ⟨yQ.2 (by simp [Rd]),by simp [BS5,lL]⟩
 | n + 1,k,.pair a b,f,x,c :: cs,key,hf,h,hb=>by
  simp only [oX] at h
  obtain ⟨h1,h2⟩:=h
  have hl:=zU h1
  obtain ⟨q1,q2⟩:=A5t (n:=n) (k:=k + 1) (key:=key ++ [1]) (BF4 hf) h2 (fun s b' hs=>by
   rw [List.append_assoc]
   exact hb (1 :: s) b' (by simpa [rR] using hs))
  have ht:(c ++ cs.flatten).take a.size = c:=by rw [← hl];simp
  have hd:(c ++ cs.flatten).drop a.size = cs.flatten:=by rw [← hl];simp
  simp only [Ab8,As7,Bd3,List.flatten_cons,BS5,lL]
  refine ⟨qN.2 ⟨?_,?_⟩,?_⟩
  ·rw [ht]
   refine cB (A43 hf) (zL (fun _ hb=>⟨hb,rfl⟩) (fun s b' hs=>⟨?_,rfl⟩) h1)
   rw [List.append_assoc]
   exact hb (0 :: s) b' (by simpa [rR] using hs)
  ·rw [hd];exact q1
  ·rw [ht,hd,q2]
 | 0,_,_,_,_,_ :: _,_,_,h,_=>by simp [oX] at h
 | _ + 1,_,.pair _ _,_,_,[],_,_,h,_=>by simp [oX] at h
 | _ + 1,_,.int _,_,_,_,_,_,h,_ | _ + 1,_,.bool,_,_,_,_,_,h,_ | _ + 1,_,.str,_,_,_,_,_,h,_ | _ + 1,_,.fn,_,_,_,_,_,h,_ | _ + 1,_,.unit,_,_,_,_,_,h,_
 | _ + 1,_,.sl _,_,_,_,_,_,h,_ | _ + 1,_,.ptr _,_,_,_,_,_,h,_ | _ + 1,_,.arr _ _,_,_,_,_,_,h,_=>by simp [oX] at h
theorem A9u {ms:List Mode} {t:Ty} {f fo:Fl} {sl:Nat} {pa:List PS} {o:Io} {rs:List Io} {i:Nat}:dU (.io t f fo sl pa :: ms) (o :: rs) i o.r = some (i,xP o.p):=by simp [dU]
theorem AC9 {x:Nat} {l:List Nat} (h:lT (x :: l) = true):x ∉ l ∧ lT l = true:=by
 simp only [lT,Bool.and_eq_true,Bool.not_eq_true'] at h
 refine ⟨fun hx=>?_,h.2⟩
 have:l.any (Nat.beq x ·) = true:=List.any_eq_true.2 ⟨x,hx,by simp⟩
 rw [this] at h;cases h.1
theorem dJ {S1:Nat → Prop} {β1:Key → Option Nat} (hsame:∀ b,S1 b → S' b ∧ w2.heap[b]? = w.heap[b]?):∀ {ms:List Mode} {rs:List Io} {cs:List (List Value)} {i:Nat} {t:Ty} {x:t.D} {us:List Up} {G:yB},
  Aw5 ms rs t x = some us → AR7 S2 β2 w2 ms cs i t x → lX H N S1 β1 w V0 ms cs rs i → lT (rs.map Io.r) = true → (∀ r ∈ rs.map Io.r,V r = V0 r) →
  (∀ j m,dU ms rs i j = some m → (∀ s b,β2 ((2 * m.1 + 1) :: s) = some b → β' (j :: (m.2 ++ s)) = some b) ∧ ∀ s b,¬ m.2 <+: s → β1 ((N + m.1) :: s) = some b → β' (j :: s) = some b ∧ w2.heap[b]? = w.heap[b]?) →
  ((∀ b,S2 b → S' b) ∨ eD ms = true) → Rel H N G V w2 S' β' → Rel H N (G.ups us) V w2 S' β'
 | [],[],[],i,t,x,us,G,hb,_,_,_,_,_,_,h=>by
  simp only [Aw5,Option.some.injEq] at hb;subst hb;exact h
 | .ro _ :: ms,rs,_ :: cs,i,t,x,us,G,hb,hi,hk,hn,hG,hβ,hc,h=>by
  simp only [Aw5] at hb;simp only [AR7] at hi;simp only [lX] at hk;simp only [dU] at hβ;simp only [eD] at hc
  exact dJ hsame hb hi hk hn hG hβ hc h
 | .mv _ _ :: ms,rs,_ :: cs,i,t,x,us,G,hb,hi,hk,hn,hG,hβ,hc,h=>by
  simp only [Aw5] at hb;simp only [AR7] at hi;simp only [lX] at hk;simp only [dU] at hβ;simp only [eD] at hc
  exact dJ hsame hb hi hk hn hG hβ hc h
 | .io tm f fo sl pa :: ms,o :: rs,c :: cs,i,.pair ta tb,x,us,G,hb,hi,hk,hn,hG,hβ,hc,h=>by
  simp only [Aw5] at hb;simp only [AR7] at hi;simp only [lX] at hk;simp only [eD,Bool.and_eq_true] at hc
  obtain ⟨rfl,hv,hi⟩:=hi
  obtain ⟨⟨hrN,hfo,d0,cr,L,hg,hdt,hgb,hinb,hV0,hold,hw1,hw2,hpins⟩,hk⟩:=hk
  rw [hg] at hb
  simp only at hb
  split at hb
  ·rename_i y hm
   split at hb
   ·obtain ⟨us',hb',rfl⟩:=Option.map_eq_some_iff.1 hb
    simp only [List.map_cons] at hn hG
    obtain ⟨hr,hn⟩:=AC9 hn
    have hVr:=hG o.r (by simp)
    obtain ⟨hβ1,hβ2⟩:=hβ o.r _ A9u
    simp only at hβ1 hβ2
    have hvv:zP S' β' H w2 ([o.r] ++ xP o.p) ta (d0.f.wrap fo) x.1 c:=by
     refine jG hpins (cB (H:=noH) hfo ?_)
     have h1:zP S2 β' noH w2 ([o.r] ++ xP o.p) ta fo x.1 c:=zL (fun _ hb=>⟨hb,rfl⟩) (fun s b hb=>⟨by simpa using hβ1 s b (by simpa using hb),rfl⟩) hv
     rcases hc with hc | hc
     ·exact zL (fun b hb=>⟨hc b hb,rfl⟩) (fun s b hb=>⟨hb,rfl⟩) h1
     ·exact mK hc.1 h1
    have hnew:zP S' β' H w2 [o.r] o.e.t y.1 y.2 cr:=
     mG hsame (k:=[N + i]) hg hgb hinb (by have:=zU hold;simp [zF,this]) hw1 hw2 hm hold hvv (fun s b hs hbb=>by
      have:=hβ2 s b hs (by simpa using hbb)
      simpa using this)
    have h2:Rel H N (G.up (.put o.r (.dat ⟨o.e.t,y.2,y.1⟩))) V w2 S' β':=
     h.put h.sane (fun b hb=>⟨hb,rfl⟩) (fun j s b _ _ hb=>⟨hb,rfl⟩) (fun _ _=>rfl) ⟨cr,hnew,by rw [hVr];exact hV0⟩
    show Rel H N ((G.up (.put o.r (.dat ⟨o.e.t,y.2,y.1⟩))).ups us') V w2 S' β'
    refine dJ hsame (i:=i + 1) hb' hi hk hn (fun r' hr'=>hG r' (by simp [hr'])) (fun j m hj=>?_) (hc.imp id (·.2)) h2
    have hne:j ≠ o.r:=fun e=>hr (e ▸ AC0 hj)
    exact hβ j m (by simp only [dU];rw [if_neg hne];exact hj)
   ·cases hb
  ·cases hb
 | [],[],_ :: _,_,_,_,_,_,_,hi,_,_,_,_,_,_=>by simp [AR7] at hi
 | [],_ :: _,_,_,_,_,_,_,hb,_,_,_,_,_,_,_=>by simp [Aw5] at hb
 | .ro _ :: _,_,[],_,_,_,_,_,_,hi,_,_,_,_,_,_=>by simp [AR7] at hi
 | .mv _ _ :: _,_,[],_,_,_,_,_,_,hi,_,_,_,_,_,_=>by simp [AR7] at hi
 | .io _ _ _ _ _ :: _,_,[],_,_,_,_,_,_,hi,_,_,_,_,_,_=>by simp [AR7] at hi
 | .io _ _ _ _ _ :: _,[],_ :: _,_,_,_,_,_,_,_,hk,_,_,_,_,_=>by simp [lX] at hk
 | .io _ _ _ _ _ :: _,_ :: _,_ :: _,_,.int _,_,_,_,_,hi,_,_,_,_,_,_ | .io _ _ _ _ _ :: _,_ :: _,_ :: _,_,.bool,_,_,_,_,hi,_,_,_,_,_,_ | .io _ _ _ _ _ :: _,_ :: _,_ :: _,_,.str,_,_,_,_,hi,_,_,_,_,_,_
 | .io _ _ _ _ _ :: _,_ :: _,_ :: _,_,.fn,_,_,_,_,hi,_,_,_,_,_,_ | .io _ _ _ _ _ :: _,_ :: _,_ :: _,_,.unit,_,_,_,_,hi,_,_,_,_,_,_ | .io _ _ _ _ _ :: _,_ :: _,_ :: _,_,.sl _,_,_,_,_,hi,_,_,_,_,_,_
 | .io _ _ _ _ _ :: _,_ :: _,_ :: _,_,.ptr _,_,_,_,_,hi,_,_,_,_,_,_ | .io _ _ _ _ _ :: _,_ :: _,_ :: _,_,.arr _ _,_,_,_,_,hi,_,_,_,_,_,_=>by simp [AR7] at hi
theorem Rel.kills (h:Rel H N g V w S β):∀ {os:List Io},Rel H N (g.ups (kills os)) V w S β:=by
 intro os
 induction os generalizing g with
 | nil=>exact h
 | cons o os ih=>exact ih (h.kill fun _ _=>rfl)
theorem BN0 {os:List Io} (h:∀ o ∈ os,o.r < N):∀ u ∈ kills os,u.slot < N:=by
 induction os with
 | nil=>simp [Go.Rf.kills]
 | cons o os ih=>
  intro u hu
  simp only [Go.Rf.kills,List.mem_cons] at hu
  rcases hu with rfl | hu
  ·exact h o (by simp)
  ·exact ih (fun o ho=>h o (by simp [ho])) u hu
theorem A0R:∀ {os:List Io} {g:yB},∀ r ∈ os.map Io.r,((g.ups (kills os)) r).sv = .dead
 | [],_,r,h=>by simp at h
 | o :: os,g,r,h=>by
  simp only [Go.Rf.kills,yB.ups]
  by_cases hr:r ∈ os.map Io.r
  ·exact A0R r hr
  ·have:r = o.r:=by simp only [List.map_cons,List.mem_cons] at h;exact h.resolve_right hr
   subst this
   rw [A4b]
   ·rw [show g.up (.put o.r .dead) o.r = _ from mO (u:=.put o.r .dead)];rfl
   ·intro u hu e
    have key:∀ {os:List Io},u ∈ Go.Rf.kills os → u.slot ∈ os.map Io.r:=by
     intro os
     induction os with
     | nil=>simp [Go.Rf.kills]
     | cons o' os ih=>
      intro hu
      simp only [Go.Rf.kills,List.mem_cons] at hu
      rcases hu with rfl | hu
      ·simp [Up.slot]
      ·simp only [List.map_cons,List.mem_cons];exact .inr (ih hu)
    exact hr (e ▸ key hu)
theorem lX.lt:∀ {ms:List Mode} {cs:List (List Value)} {rs:List Io} {k:Nat},lX H N S β w V0 ms cs rs k → ∀ o ∈ rs,o.r < N
 | [],[],[],_,_=>by simp
 | .ro _ :: ms,_ :: cs,rs,k,h=>by simp only [lX] at h;exact lX.lt h
 | .mv _ _ :: ms,_ :: cs,rs,k,h=>by simp only [lX] at h;exact lX.lt h
 | .io _ _ _ _ _ :: ms,c :: cs,o :: rs,k,h=>by
  simp only [lX] at h
  intro o' ho'
  rcases List.mem_cons.1 ho' with rfl | ho'
  ·exact h.1.lt
  ·exact lX.lt h.2 o' ho'
 | [],[],_ :: _,_,h | [],_ :: _,_,_,h | .ro _ :: _,[],_,_,h | .mv _ _ :: _,[],_,_,h | .io _ _ _ _ _ :: _,[],_,_,h | .io _ _ _ _ _ :: _,_ :: _,[],_,h=>by simp [lX] at h
theorem A8p {ρ:Operand → Value} {c:Call} {f:FuncId} (ho:o.op = .call c) (hcal:c.callee = .value (.func f)) (hρ:ρ (.func f) = .func (.func f) #[] #[]):
  execOp ρ o = callFunc f (c.args.map ρ):=by
 unfold execOp
 simp [ho,resolve,hcal,Deferred.ofValue,invoke,hρ]
theorem BA8 {f:FuncId} {args:Array Value} {K:Act → World → Prop} {Q:Exit → Act → World → Prop} (he:execOp a.eval o = callFunc f args)
  (h:Ac5 P f args w fun v w'=>K (a.put o.dst v) w'):o.wp P a w K Q:=by
 unfold Oper.wp
 rw [he]
 rcases h with ⟨fn,h1,h2,h3,h4⟩ | ⟨v,w',h1,h2⟩
 ·have hr:(callFunc f args).run P w = .ok (.enter f args) w:=by
   have h2':fn.name ≠ "runtime.NumGoroutine" := fun e=>by rw [e] at h2;simp at h2
   have h3':fn.body ≠ none:=fun e=>by rw [e] at h3;simp at h3
   simp only [callFunc,go_sem]
   simp [h1,h2',h3']
  rw [hr,Oper.upon_enter]
  exact h4.mono fun e w' he=>by cases e <;> first | exact he | exact he.elim
 ·rw [h1,Oper.upon_value];exact h2
theorem A4M {n d:Nat} {t:Ty} {f:Fl} {x:t.D} {crs:List (List Value)} {rv:SV} {gg:yB} (hr:BN3 n (Ab8 n t) (Bd3 n t x) (As7 n f) = some rv) (h:oX S2 β2 w n 0 t f x crs) (hf:f.nopin = true)
  (hc:(∀ b,S2 b → S' b) ∨ rY (Ab8 n t) (As7 n f) = true) (hβ:∀ s b,(if Nat.beq n 1 = true then some (0 :: s) else rR 0 s).bind β2 = some b → β' (d :: s) = some b):
  pU H N gg (upd V d (Ag3 (lL n t crs))) w S' β' d rv:=by
 have many:n ≠ 1 → rv = .tup ⟨Ab8 n t,Bd3 n t x,As7 n f⟩ → pU H N gg (upd V d (Ag3 (lL n t crs))) w S' β' d rv:=by
  intro hn e
  have hn':Nat.beq n 1 = false:=by
   cases h:Nat.beq n 1 with
   | false=>rfl
   | true=>exact absurd (Nat.eq_of_beq_eq_true h) hn
  obtain ⟨q1,q2⟩:=A5t (H:=H) (key:=[d]) hf h (fun s b hs=>by simpa using hβ s b (by rw [hn'];exact hs))
  subst e
  refine ⟨crs.flatten,?_,?_⟩
  ·rcases hc with hc | hc
   ·exact zL (fun b hb=>⟨hc b hb,rfl⟩) (fun s b hb=>⟨hb,rfl⟩) q1
   ·exact mK hc q1
  ·rw [A4D (by rw [An2 h];exact hn)]
   simp only [upd,if_true,BQ0,q2]
 match n,h,hr with
 | 0,h,hr=>
  refine many (by omega) ?_
  simp only [BN3,Option.some.injEq] at hr
  exact hr.symm
 | n + 2,h,hr=>
  refine many (by omega) ?_
  simp only [BN3,Option.some.injEq] at hr
  exact hr.symm
 | 1,h,hr=>
  cases t with
  | pair ta tb=>
   match crs,h with
   | [c],h=>
    simp only [oX] at h
    have hr:(some (.dat ⟨ta,x.1,(Fl.mkpr f.l .sh).l⟩):Option SV) = some rv:=hr
    rw [A6E] at hr
    simp only [Option.some.injEq] at hr
    subst hr
    simp only [Ab8,As7,rY,A6E,Bool.and_true] at hc
    have h1:zP S2 β' H w [d] ta f.l x.1 c:=cB (H:=noH) (A43 hf) (zL (fun _ hb=>⟨hb,rfl⟩) (fun s b hb=>⟨by simpa using hβ s b (by simpa using hb),rfl⟩) h.1)
    refine ⟨c,?_,by simp [upd,lL,Ag3]⟩
    rcases hc with hc | hc
    ·exact zL (fun b hb=>⟨hc b hb,rfl⟩) (fun s b hb=>⟨hb,rfl⟩) h1
    ·exact mK hc h1
   | [],h=>simp [oX] at h
   | _ :: _ :: _,h=>simp [oX] at h
  | _=>simp [oX] at h
theorem An7:∀ {xs:List Operand} {vs:List Value},xs.map (evl (oR a) ·) = vs.map some → xs.map a.eval = vs
 | [],[],_=>rfl
 | x :: xs,v :: vs,h=>by
  simp only [List.map_cons,List.cons.injEq] at h ⊢
  exact ⟨zJ h.1,An7 h.2⟩
 | [],_ :: _,h=>by simp at h
 | _ :: _,[],h=>by simp at h
theorem Ab9 {d:Option Nat} {us:List Up} (r:Nat) (v:SV):Up.soften d g us (.put r v) = .mod r v ∨ Up.soften d g us (.put r v) = .put r v:=by
 by_cases h:(!Bf8 d r && A7Z g us r) = true
 ·exact .inl (if_pos h)
 ·exact .inr (if_neg h)
theorem Ar7 {d:Option Nat} {us:List Up} {u:Up}:(Up.soften d g us u).slot = u.slot:=by
 cases u with
 | put r v=>rcases Ab9 (d:=d) (g:=g) (us:=us) r v with e | e <;> rw [e] <;> rfl
 | mod r v=>rfl
 | pub r v=>rfl
theorem BN9 {d:Option Nat} {us:List Up} {u:Up}:(Up.soften d g us u).v = u.v:=by
 cases u with
 | put r v=>rcases Ab9 (d:=d) (g:=g) (us:=us) r v with e | e <;> rw [e] <;> rfl
 | mod r v=>rfl
 | pub r v=>rfl
theorem A9W {d:Option Nat} {us:List Up} {u:Up} (a:Slot):((Up.soften d g us u).on a).c = (u.on a).c ∧ ((Up.soften d g us u).on a).u = (u.on a).u:=by
 cases u with
 | put r v=>rcases Ab9 (d:=d) (g:=g) (us:=us) r v with e | e <;> rw [e] <;> exact ⟨rfl,rfl⟩
 | mod r v=>exact ⟨rfl,rfl⟩
 | pub r v=>exact ⟨rfl,rfl⟩
theorem Bs1 {u:Up} {a b:Slot} (h1:a.c = b.c) (h2:a.u = b.u):(u.on a).c = (u.on b).c ∧ (u.on a).u = (u.on b).u:=by
 cases u <;> simp [Up.on,h1,h2]
structure Alike (a b:Slot):Prop where
 sv:a.sv = b.sv
 c:a.c = b.c
 u:a.u = b.u
theorem Up.on_sv (u:Up) (a:Slot):(u.on a).sv = u.v:=by cases u <;> rfl
theorem Up.on_c (u:Up) (a:Slot):a.c ≤ (u.on a).c ∧ a.s ≤ (u.on a).s ∧ a.u ≤ (u.on a).u ∧ ((u.on a).c = a.c → (u.on a).s = a.s):=by
 cases u <;> simp [Up.on]
theorem Ap5 (u:Up) (r:Nat):(g.up u) r = if r = u.slot then u.on (g r) else g r:=by
 by_cases h:r = u.slot
 ·rw [if_pos h,h,mO]
 ·rw [if_neg h,qL h]
theorem Ak2:∀ (us:List Up) (g:yB) (r:Nat),(g r).c ≤ ((g.ups us) r).c ∧ (g r).s ≤ ((g.ups us) r).s ∧ (((g.ups us) r).c = (g r).c → ((g.ups us) r).s = (g r).s)
 | [],g,r=>⟨Nat.le_refl _,Nat.le_refl _,fun _=>rfl⟩
 | u :: us,g,r=>by
  obtain ⟨h1,h2,h3⟩:=Ak2 us (g.up u) r
  have hu:=Up.on_c u (g r)
  have e:=Ap5 (g:=g) u r
  show (g r).c ≤ (((g.up u).ups us) r).c ∧ _
  by_cases h:r = u.slot
  ·rw [if_pos h] at e
   rw [e] at h1 h2 h3
   obtain ⟨u1,u2,u3,u4⟩:=hu
   refine ⟨by omega,show (g r).s ≤ (((g.up u).ups us) r).s by omega,fun hc=>?_⟩
   have hc:(((g.up u).ups us) r).c = (g r).c:=hc
   have e3:=h3 (by omega)
   have e4:=u4 (by omega)
   show (((g.up u).ups us) r).s = _
   omega
  ·rw [if_neg h] at e
   rw [e] at h1 h2 h3
   exact ⟨h1,h2,h3⟩
theorem A0v:∀ (us:List Up) (g:yB) (r:Nat),us.all (fun u=>!u.v.refs) = true → (((g.ups us) r).sv.refs = true → ((g.ups us) r).sv = (g r).sv)
 | [],g,r,_,_=>rfl
 | u :: us,g,r,ha,hr=>by
  rw [List.all_cons,Bool.and_eq_true] at ha
  have hr':(((g.up u).ups us) r).sv.refs = true:=hr
  have:=A0v us (g.up u) r ha.2 hr'
  show (((g.up u).ups us) r).sv = _
  rw [this]
  rw [this,Ap5] at hr'
  rw [Ap5]
  by_cases h:r = u.slot
  ·rw [if_pos h,Up.on_sv] at hr'
   rw [hr'] at ha
   exact absurd ha.1 (by decide)
  ·rw [if_neg h]
theorem Am7 {d : Option Nat} {g0 : yB} {us0 : List Up} (r : Nat) : ∀ (us : List Up) (a b : Slot) (g1 g2 : yB), g1 r = a → g2 r = b → Alike a b →
    Alike ((g1.ups (us.map (Up.soften d g0 us0))) r) ((g2.ups us) r) ∧
    (((!Bf8 d r && A7Z g0 us0 r) = true ∧ ((g1.ups (us.map (Up.soften d g0 us0))) r).s = a.s) ∨
     ((!Bf8 d r && A7Z g0 us0 r) = false ∧ (a = b → (g1.ups (us.map (Up.soften d g0 us0))) r = (g2.ups us) r)))
  | [], a, b, g1, g2, h1, h2, hab => by
    subst h1 h2
    refine ⟨hab, ?_⟩
    cases hc : (!Bf8 d r && A7Z g0 us0 r) with
    | true => exact .inl ⟨rfl, rfl⟩
    | false => exact .inr ⟨rfl, fun h => h⟩
  | u :: us, a, b, g1, g2, h1, h2, hab => by
    by_cases hr : r = u.slot
    · have e1 : (g1.up (Up.soften d g0 us0 u)) r = (Up.soften d g0 us0 u).on a := by rw [Ap5, Ar7, if_pos hr, h1]
      have e2 : (g2.up u) r = u.on b := by rw [Ap5, if_pos hr, h2]
      have hal : Alike ((Up.soften d g0 us0 u).on a) (u.on b) := by
        have k1 := A9W (d := d) (g := g0) (us := us0) (u := u) a
        have k2 := Bs1 (u := u) hab.c hab.u
        exact ⟨by rw [Up.on_sv, Up.on_sv, BN9], k1.1.trans k2.1, k1.2.trans k2.2⟩
      obtain ⟨q1, q2⟩ := Am7 r us _ _ _ _ e1 e2 hal
      refine ⟨q1, ?_⟩
      rcases q2 with ⟨hc, q2⟩ | ⟨hc, q2⟩
      · refine .inl ⟨hc, ?_⟩
        show ((((g1.up (Up.soften d g0 us0 u)).ups (us.map (Up.soften d g0 us0)))) r).s = _
        rw [q2]
        cases u with
        | put s v =>
          have hs : r = s := hr
          subst hs
          have e : Up.soften d g0 us0 (.put r v) = .mod r v := if_pos hc
          rw [e]; rfl
        | mod s v => simp only [Up.soften, Up.on]
        | pub s v => simp only [Up.soften, Up.on]
      · refine .inr ⟨hc, fun hab => ?_⟩
        subst hab
        refine q2 ?_
        cases u with
        | put s v =>
          have hs : r = s := hr
          subst hs
          have e : Up.soften d g0 us0 (.put r v) = .put r v := if_neg (fun h => absurd (h.symm.trans hc) (by decide))
          rw [e]
        | mod s v => rfl
        | pub s v => rfl
    · have e1 : (g1.up (Up.soften d g0 us0 u)) r = a := by rw [Ap5, Ar7, if_neg hr, h1]
      have e2 : (g2.up u) r = b := by rw [Ap5, if_neg hr, h2]
      exact Am7 r us _ _ _ _ e1 e2 hab
theorem A6N {d:Nat}:∀ (us:List Up) (g:yB),us.any (A0p d) = true → (g d).s < ((g.ups us) d).s
 | [],_,h=>by cases h
 | u :: us,g,h=>by
  rw [List.any_cons,Bool.or_eq_true] at h
  show _ < (((g.up u).ups us) d).s
  by_cases hu:A0p d u = true
  ·have hm:=(Ak2 us (g.up u) d).2.1
   cases u with
   | put r v=>
    have hr:d = r:=Nat.eq_of_beq_eq_true hu
    subst hr
    rw [Ap5,if_pos (show d = Up.slot (.put d v) from rfl)] at hm
    have:(Up.on (.put d v) (g d)).s = (g d).s + 1:=rfl
    omega
   | mod r v=>cases hu
   | pub r v=>cases hu
  ·have:=A6N us (g.up u) (h.resolve_left hu)
   have h2:(g d).s ≤ ((g.up u) d).s:=(Ak2 [u] g d).2.1
   omega
theorem A0T {d:Nat}:∀ (us:List Up) (g:yB),us.all (fun u=>!u.v.refs) = true → us.any (A0p d) = true → ((g.ups us) d).sv.refs = false
 | [],_,_,h=>by cases h
 | u :: us,g,h1,h2=>by
  rw [List.all_cons,Bool.and_eq_true] at h1
  by_cases h3:us.any (A0p d) = true
  ·exact A0T us _ h1.2 h3
  ·rw [List.any_cons,Bool.or_eq_true] at h2
   have h4:=h2.resolve_right h3
   cases hq:(((g.up u).ups us) d).sv.refs with
   | false=>exact hq
   | true=>
    have h5:=A0v us (g.up u) d h1.2 hq
    rw [h5,Ap5] at hq
    have h6:d = u.slot:=by
     cases u with
     | put r v=>exact Nat.eq_of_beq_eq_true h4
     | mod r v=>cases h4
     | pub r v=>cases h4
    rw [if_pos h6,Up.on_sv] at hq
    rw [hq] at h1
    exact absurd h1.1 (by decide)
theorem BM7 {t:Ty} {x y:t.D} {p:List PS} (h:fX p = true) (hi:inB p t x):inB p t y:=by
 cases p with
 | nil=>simp [inB]
 | cons s p=>
  cases s <;> simp only [fX,Bool.false_eq_true,Bool.not_eq_true'] at h
  cases t <;> first | (simp only [inB] at hi ⊢;exact AV3 h hi) | (simp [inB] at hi)
theorem Rel.softs {d:Option Nat} {us:List Up} (hb:Rel H N g V w S β) (hs:Sub gv g) (ha:Rel H N (g.ups us) V' w' S' β') (hV:∀ r,d ≠ some r → V' r = V r):Rel H N (g.ups (Go.Rf.softs d gv us)) V' w' S' β':=by
 unfold Go.Rf.softs
 split
 ·rename_i hcond
  rw [Bool.and_eq_true] at hcond
  obtain ⟨hrefs,hput⟩:=hcond
  have key:=fun r=>Am7 (d:=d) (g0:=gv) (us0:=us) r us (g r) (g r) g g rfl rfl ⟨rfl,rfl,rfl⟩
  have mono:=Ak2 us g
  refine ⟨ha.sane,fun j=>?_⟩
  have hold:=ha.slots j
  have hbef:=hb.slots j
  have hal:=(key j).1
  rw [hal.sv]
  have hsv:=A0v us g j hrefs
  have hjd:((g.ups us) j).sv.refs = true → d ≠ some j:=fun h e=>by
   subst e
   rw [A0T us g hrefs hput] at h
   cases h
  have hrd:∀ r s,s ≤ (g r).s → ((g.ups (us.map (Up.soften d gv us))) r).s = s → (g r).s = s ∧ d ≠ some r:=fun r s h1 h2=>by
   rcases (key r).2 with ⟨hc,q⟩ | ⟨hc,q⟩
   ·refine ⟨by omega,fun e=>?_⟩
    subst e
    simp [Bf8] at hc
   ·have:=q rfl
    rw [this] at h2
    have:=(mono r).2.1
    refine ⟨by omega,fun e=>?_⟩
    subst e
    have:=A6N us g hput
    omega
  generalize hx:((g.ups us) j).sv = x at hold hsv
  cases x with
  | dead=>exact hold
  | nils=>exact hold
  | und=>exact hold
  | unk=>exact hold
  | dat d=>exact hold
  | tup d=>exact hold
  | adr r p c s=>
   rw [← hsv rfl] at hbef
   obtain ⟨a1,a2,a3,a4⟩:=hold
   obtain ⟨b1,b2,b3,b4⟩:=hbef
   refine ⟨a1,by rw [(key r).1.c];exact a2,?_,fun hok=>?_⟩
   ·rcases (key r).2 with ⟨hc,q⟩ | ⟨hc,q⟩
    ·omega
    ·rw [q rfl];exact a3
   ·obtain ⟨h1,h2⟩:=dA.1 hok
    obtain ⟨h3,hd⟩:=hrd r s b3 h1
    rcases (key r).2 with ⟨hc,q⟩ | ⟨hc,q⟩
    ·rw [(key r).1.c] at h2
     have hbx:fX p = true ∨ (g r).c = c:=h2.imp id fun e=>by have:=(mono r).1;omega
     by_cases hcc:((g.ups us) r).c = (g r).c
     ·
      have hse:=(mono r).2.2 hcc
      have:=a4 (dA.2 ⟨by omega,h2⟩)
      intro dr hdr
      rw [(key r).1.sv] at hdr
      exact this dr hdr
     ·have hbx:fX p = true:=by
       rcases h2 with h2 | h2
       ·exact h2
       ·have:=(mono r).1;omega
      have hA:=b4 (dA.2 ⟨h3,.inl hbx⟩)
      intro dr hdr
      rw [(key r).1.sv] at hdr
      rw [Bool.and_eq_true] at hc
      have hst:=hc.2
      unfold A7Z at hst
      have hgr:∀ d0,(gv r).sv = .dat d0 → (g r).sv = .dat d0:=fun d0 h=>by
       rcases hs r with h' | h'
       ·rw [h'] at h;cases h
       ·rw [h'];exact h
      have hgu:∀ d0,((gv.ups us) r).sv = .dat d0 → (gv r).sv ≠ .dead → ((g.ups us) r).sv = .dat d0:=fun d0 h hn=>by
       have:∀ (us:List Up) (g1 g2:yB),g1 r = g2 r → (g1.ups us) r = (g2.ups us) r:=fun us=>by
        induction us with
        | nil=>exact fun _ _ h=>h
        | cons u us ih=>exact fun g1 g2 h=>ih _ _ (by rw [Ap5,Ap5,h])
       rcases hs r with h' | h'
       ·exact absurd h' hn
       ·rw [this us g gv h'];exact h
      split at hst
      ·rename_i da db e1 e2
       have ht:da.t = db.t:=of_decide_eq_true hst
       have e3:=hgu db e2 (by rw [e1];simp)
       rw [e3] at hdr
       obtain rfl:=SV.dat.inj hdr
       obtain ⟨cr,t,b,o,v1,v2,v3,v4,v5,v6⟩:=hA da (hgr da e1)
       refine ⟨cr,t,b,o,?_,?_,?_,?_,?_,fun h=>?_⟩
       ·rw [hV r hd,← ht];exact v1
       ·rw [← ht];exact v2
       ·rw [← ht,AM3 (w':=w) hbx];exact v3
       ·have hj:d ≠ some j:=hjd (by rw [hx];rfl)
        rw [hV j hj];exact v4
       ·have hcast:∀ (t t':Ty) (h:t = t') (x:t.D) (y:t'.D),inB p t x → inB p t' y:=fun t t' h x y hi=>by
         subst h;exact BM7 hbx hi
        exact hcast _ _ ht _ _ v5
       ·rw [hbx] at h;cases h
      ·cases hst
    ·have e:=q rfl
     have:=a4 (dA.2 ⟨by rw [← h1,e],by rw [← e];exact h2⟩)
     intro dr hdr
     rw [(key r).1.sv] at hdr
     exact this dr hdr
  | als r p c s=>
   rw [← hsv rfl] at hbef
   obtain ⟨a1,a2,a3,a4⟩:=hold
   obtain ⟨b1,b2,b3,b4⟩:=hbef
   refine ⟨a1,by rw [(key r).1.c];exact a2,?_,fun hok=>?_⟩
   ·rcases (key r).2 with ⟨hc,q⟩ | ⟨hc,q⟩
    ·omega
    ·rw [q rfl];exact a3
   ·obtain ⟨h2,h1⟩:=AC6.1 hok
    obtain ⟨h3,hd⟩:=hrd r s b3 h1
    rw [(key r).1.c] at h2
    have hse:=(mono r).2.2 (by have:=(mono r).1;omega)
    have:=a4 (AC6.2 ⟨h2,by omega⟩)
    intro dr hdr
    rw [(key r).1.sv] at hdr
    exact this dr hdr
  | pend r p c s u d'=>
   rw [← hsv rfl] at hbef
   obtain ⟨a1,a2,a3,a5,a4⟩:=hold
   obtain ⟨b1,b2,b3,b5,b4⟩:=hbef
   refine ⟨a1,by rw [(key r).1.c];exact a2,?_,by rw [(key r).1.u];exact a5,fun hok=>?_⟩
   ·rcases (key r).2 with ⟨hc,q⟩ | ⟨hc,q⟩
    ·omega
    ·rw [q rfl];exact a3
   ·obtain ⟨⟨h2,h1⟩,h6⟩:=Ab4.1 hok
    obtain ⟨h3,hd⟩:=hrd r s b3 h1
    rw [(key r).1.c] at h2
    rw [(key r).1.u] at h6
    have hse:=(mono r).2.2 (by have:=(mono r).1;omega)
    have:=a4 (Ab4.2 ⟨⟨h2,by omega⟩,h6⟩)
    intro dr hdr
    rw [(key r).1.sv] at hdr
    exact this dr hdr
  | clo h rs=>
   rw [← hsv rfl] at hbef
   obtain ⟨a1,a2⟩:=hold
   obtain ⟨b1,b2⟩:=hbef
   refine ⟨fun x hx=>⟨(a1 x hx).1,?_⟩,fun hall=>?_⟩
   ·have:=(b1 x hx).2
    rcases (key x.1).2 with ⟨hc,q⟩ | ⟨hc,q⟩
    ·omega
    ·rw [q rfl];exact (a1 x hx).2
   ·have hh:=fun x hx=>hrd x.1 x.2 (b1 x hx).2 (hall x hx)
    intro vs hvs
    have hm:rs.map (fun x=>V' x.1) = rs.map (fun x=>V x.1):=List.map_congr_left fun x hx=>hV _ (hh x hx).2
    rw [hV j (hjd (by rw [hx];rfl))]
    exact b2 (fun x hx=>(hh x hx).1) vs (by rw [← hm];exact hvs)
 ·exact ha
theorem A3k {R:Run E} {c:Call} {f:FuncId} (hR:Aw6 E R) (hc:Ctx E.P H S β a w o g) (hs:Sub gv g) (hm:o.op = .call c) (hcal:c.callee = .value (.func f))
  (hk:AR2 E R gv o f c.args.toList some = some us) (K:Act → World → Prop) (Q:Exit → Act → World → Prop)
  (hK:∀ a' w' S' β',a'.tmps.size = a.tmps.size → a'.defers = a.defers → (∀ r,o.dst ≠ some r → oR a' r = oR a r) → Rel H a.tmps.size (g.ups us) (oR a') w' S' β' → Step w S β w' S' β' → K a' w'):o.wp E.P a w K Q:=by
 unfold AR2 at hk
 split at hk
 ·rename_i p hp
  split at hk
  ·rename_i ds lent hd
   split at hk
   ·rename_i hcond
    obtain ⟨x,hx,hk⟩:=Option.bind_eq_some_iff.1 hk
    simp only [Bool.and_eq_true,Bool.or_eq_true,Bool.not_eq_true',List.isEmpty_iff] at hcond
    obtain ⟨⟨hsh,hrf⟩,hnd⟩:=hcond
    have hgv:yK a.tmps.size gv:=fun i hi=>by
     rcases hs i with h | h
     ·exact h
     ·rw [← h];exact hc.dead i hi
    obtain ⟨G',V',S1,β1,r1,r2,r3,r4,r5,r6,r7,r8,r9⟩:=AV9 (V0:=oR a) (k:=0) hc.rel hs hgv (fun i hi=>hc.dead i (by omega)) (fun _ _=>rfl) hp
    have hks:∀ j,0 ≤ j → Ah9 (E.cfg f).modes p.ios 0 j = Ah9 (E.cfg f).modes p.ios 0 j:=fun _ _=>rfl
    obtain ⟨cs,q1,q2,q3,q4⟩:=gV (ks:=Ah9 (E.cfg f).modes p.ios 0) r1 r3 r4 (fun i hi=>r6 i (by omega)) r8 hks hd
    have q4:=q4 lent (fun _ h=>h)
    split at hk
    ·rename_i rv usb hrv hbk
     have hargs:(yE ds cs).toArray = c.args.map a.eval:=by
      have:=An7 q1
      apply Array.toList_inj.1
      rw [← this];simp
     refine BA8 (A8p hm hcal rfl) ?_
     rw [← hargs]
     refine (hR f ds x hx w _ _ cs (A2i r1.sane q2) q4).mono fun v w2 ⟨S2,β2,crs,s1,s2,s3,s4,s5⟩=>?_
     obtain ⟨S'',hS1,hS2⟩:∃ S'':Nat → Prop,((S'' = S2 ∧ lent = []) ∨ S'' = S1) ∧ ((∀ b,S2 b → S'' b) ∨ (rY (Ab8 (E.cfg f).nres (E.cfg f).rt) (As7 (E.cfg f).nres (E.cfg f).rf) = true ∧ eD (E.cfg f).modes = true)):=by
      rcases hsh with h | h
      ·refine ⟨S1,.inr rfl,.inr ?_⟩
       simpa [BC4] using h
      ·exact ⟨S2,.inl ⟨rfl,h⟩,.inl fun _ h=>h⟩
     have hio:∀ j j' m m',dU (E.cfg f).modes p.ios 0 j = some m → dU (E.cfg f).modes p.ios 0 j' = some m' → m.1 = m'.1 → j = j':=fun _ _ _ _=>Aj8
     have hioks:∀ j m,dU (E.cfg f).modes p.ios 0 j = some m → Ah9 (E.cfg f).modes p.ios 0 m.1 = m.2:=fun _ _=>A1j
     obtain ⟨sane2,step2⟩:=A9Z (N:=a.tmps.size) (one:=Nat.beq (E.cfg f).nres 1) (dst:=o.dst) hio hioks r1.sane s1 s2 hS1
     have stepA:=r2.trans step2
     have hsame:=s2.same (A2i r1.sane q2)
     have hSame:∀ b,S1 b → S'' b ∧ w2.heap[b]? = w.heap[b]?:=fun b hb=>⟨step2.keepS b hb,(hsame b (.inl hb)).2⟩
     have hkl:=BN0 (N:=a.tmps.size) q3.lt
     have hdead:yK a.tmps.size ((g.ups p.ups).ups (kills p.ios)):=(hc.dead.ups r9).ups hkl
     have rel1:Rel H a.tmps.size ((g.ups p.ups).ups (kills p.ios)) (oR a) w S1 β1:=
      (r1.fin (g':=g.ups p.ups) (V':=oR a) (fun i hi=>(r5 i hi).symm) (hc.dead.ups r9) (fun i hi=>(r6 i (by omega)).symm)).kills
     have hfar:∀ j s κ b,j < a.tmps.size → Was a.tmps.size (dU (E.cfg f).modes p.ios 0) j s κ → β1 κ = some b → w2.heap[b]? = w.heap[b]?:=fun j s κ b hj hw hb=>s2.old b (r1.sane.live _ _ hb) fun k hk=>by
      cases k with
      | nil=>simp [AS6] at hk
      | cons i s'=>
       have:=r1.sane.inj _ _ _ hb hk
       rcases hw with ⟨_,rfl⟩ | ⟨m,hm',hst,rfl⟩
       ·simp only [List.cons.injEq] at this;omega
       ·simp only [List.cons.injEq] at this
        have hi:i = m.1:=by omega
        subst hi
        rw [hioks j m hm'] at this
        exact eP hst _ this.2
     have hβ:∀ j s b,o.dst ≠ some j → (((g.ups p.ups).ups (kills p.ios)) j).sv ≠ .dead → β1 (j :: s) = some b → Aa0 a.tmps.size (Nat.beq (E.cfg f).nres 1) o.dst (dU (E.cfg f).modes p.ios 0) β1 β2 (j :: s) = some b ∧ w2.heap[b]? = w.heap[b]?:=by
      intro j s b hj ha hb
      have hjN:=hdead.lt ha
      have hio0:dU (E.cfg f).modes p.ios 0 j = none:=by
       cases hq:dU (E.cfg f).modes p.ios 0 j with
       | none=>rfl
       | some m=>exact absurd (A0R j (AC0 hq)) ha
      refine ⟨?_,hfar j s _ b hjN (.inl ⟨hio0,rfl⟩) hb⟩
      simp only [Aa0]
      rw [if_neg (by omega)]
      unfold BI3
      rw [if_neg hj,hio0]
      simp only [Option.bind_none]
      rw [if_neg hj];exact hb
     have hβio:∀ j m,o.dst ≠ some j → dU (E.cfg f).modes p.ios 0 j = some m → (∀ s b,β2 ((2 * m.1 + 1) :: s) = some b → Aa0 a.tmps.size (Nat.beq (E.cfg f).nres 1) o.dst (dU (E.cfg f).modes p.ios 0) β1 β2 (j :: (m.2 ++ s)) = some b) ∧
       ∀ s b,¬ m.2 <+: s → β1 ((a.tmps.size + m.1) :: s) = some b → Aa0 a.tmps.size (Nat.beq (E.cfg f).nres 1) o.dst (dU (E.cfg f).modes p.ios 0) β1 β2 (j :: s) = some b ∧ w2.heap[b]? = w.heap[b]?:=by
      intro j m hj hm'
      have hjN:j < a.tmps.size:=by
       obtain ⟨o',ho',e⟩:=List.mem_map.1 (AC0 hm')
       rw [← e];exact q3.lt o' ho'
      refine ⟨fun s b hb=>?_,fun s b hs hb=>?_⟩
      ·simp only [Aa0]
       rw [if_neg (Nat.not_le.2 hjN)]
       unfold BI3
       rw [if_neg hj,hm']
       simp only [Option.bind_some,A2V,Option.map_some]
       exact hb
      ·have hst:rX m.2 s = none:=by
        cases hq:rX m.2 s with
        | none=>rfl
        | some s'=>exact absurd ⟨s',(mT.1 hq).symm⟩ hs
       refine ⟨?_,hfar j s _ b hjN (.inr ⟨m,hm',hst,rfl⟩) hb⟩
       simp only [Aa0]
       rw [if_neg (Nat.not_le.2 hjN)]
       unfold BI3
       rw [if_neg hj,hm']
       simp only [Option.bind_some,hst,Option.map_none]
       rw [if_neg hj];exact hb
     have hcl:(∀ b,S2 b → S'' b) ∨ eD (E.cfg f).modes = true:=hS2.imp id (·.2)
     split at hk
     ·rename_i d hdst
      split at hk
      ·cases hk
      ·rename_i hany
       simp only [Option.some.injEq] at hk
       subst hk
       have hdN:=xS hc.opIn hdst
       have hne:∀ r ∈ p.ios.map Io.r,r ≠ d:=fun r hr e=>hany (by
        subst e
        obtain ⟨y,hy,e⟩:=List.mem_map.1 hr
        exact List.any_eq_true.2 ⟨y,hy,by rw [e];exact Nat.beq_refl r⟩)
       refine hK _ _ _ _ vC yW (fun r hr=>by rw [hdst,uF hdN];rw [hdst] at hr;unfold upd;rw [if_neg (fun e=>hr (by rw [e]))]) ?_ stepA
       rw [hdst,uF hdN,xB,xB]
       show Rel H a.tmps.size ((((g.ups p.ups).ups (kills p.ios)).up (.put d rv)).ups usb) _ w2 S'' _
       have hβd:∀ s b,(if Nat.beq (E.cfg f).nres 1 = true then some (0 :: s) else rR 0 s).bind β2 = some b → Aa0 a.tmps.size (Nat.beq (E.cfg f).nres 1) o.dst (dU (E.cfg f).modes p.ios 0) β1 β2 (d :: s) = some b:=fun s b hb=>by
        simp only [Aa0]
        rw [if_neg (by omega)]
        unfold BI3
        rw [if_pos hdst]
        obtain ⟨q,hq,hb⟩:=Option.bind_eq_some_iff.1 hb
        rw [hq];exact hb
       have rel2:Rel H a.tmps.size (((g.ups p.ups).ups (kills p.ios)).up (.put d rv)) (upd (oR a) d v) w2 S'' _:=
        rel1.put sane2 hSame (fun j s b hj=>hβ j s b (fun e=>hj (by rw [hdst] at e;exact (Option.some.inj e).symm))) (fun j hj=>by simp [upd,hj]) (by
         rw [s4];exact A4M hrv s3 hrf (hS2.imp id (·.1)) hβd)
       rw [hdst] at rel2 hβio
       refine dJ (i:=0) (V0:=oR a) hSame hbk s5 q3 hnd (fun r hr=>?_) (fun j m hj=>hβio j m (fun e=>?_) hj) hcl rel2
       ·simp [upd,hne r hr]
       ·exact hne j (AC0 hj) (Option.some.inj e).symm
     ·rename_i hdst
      simp only [Option.some.injEq] at hk
      subst hk
      refine hK _ _ _ _ vC yW (fun r _=>by rw [hdst];rfl) ?_ stepA
      rw [hdst,xB,xB]
      show Rel H a.tmps.size (((g.ups p.ups).ups (kills p.ios)).ups usb) (oR a) w2 S'' _
      have rel2:Rel H a.tmps.size (((g.ups p.ups).ups (kills p.ios)).up (.put a.tmps.size .dead)) (oR a) w2 S'' _:=
       rel1.put sane2 hSame (fun j s b _=>hβ j s b (by rw [hdst];simp)) (fun _ _=>rfl) trivial
      have rel3:Rel H a.tmps.size ((g.ups p.ups).ups (kills p.ios)) (oR a) w2 S'' _:=rel2.fin (fun i hi=>(qX (by omega)).symm) hdead (fun _ _=>rfl)
      rw [hdst] at rel3 hβio
      exact dJ (i:=0) (V0:=oR a) hSame hbk s5 q3 hnd (fun r hr=>rfl) (fun j m hj=>hβio j m (by simp) hj) hcl rel3
    ·cases hk
   ·cases hk
  ·cases hk
 ·cases hk
theorem A5Y {R:Run E} {c:Call} {f:FuncId} (hR:Aw6 E R) (hc:Ctx E.P H S β a w o g) (hs:Sub gv g) (hm:o.op = .call c) (hcal:c.callee = .value (.func f))
  (hk:Ai7 E R gv o f c.args.toList some = some us):yM E.P H S β a w o (g.ups us):=by
 unfold Ai7 at hk
 rw [dL] at hk
 obtain ⟨us0,h0,h1⟩:=Option.bind_eq_some_iff.1 hk
 obtain rfl:=Option.some.inj h1
 intro K Q hK
 exact A3k hR hc hs hm hcal h0 K Q fun a' w' S' β' e1 e2 e3 e4 e5=>hK a' w' S' β' e1 e2 (hc.rel.softs hs e4 e3) e5
end
end Go.Rf

end
section
namespace Go.Rf
set_option linter.unusedSectionVars false
variable [T:Laid]
section
variable {P:Program} {H:Nat → Option (List Value)} {N:Nat} {g g' G σ:yB} {V V' V0:Nat → Option Value} {w w' w2:World} {S S' S2:Nat → Prop} {β β' β2:Key → Option Nat} {a:Act} {o:Oper}
variable {E:Env} {gv:yB} {us:List Up}
def AE6 (S:Nat → Prop) (w:World):List Dyn → List (List Value) → Prop
 | [],[]=>True
 | d :: ds,c :: cs=>Rd S w d.t d.x c ∧ AE6 S w ds cs
 | _,_=>False
theorem BE1:∀ {ms:List Mode} {ds:List Dyn} {cs:List (List Value)} {i:Nat},Av6 ms ds = true → AE6 S w ds cs → tJ S β w ms ds cs i
 | [],[],[],_,_,_=>by simp [tJ]
 | .ro t :: ms,d :: ds,c :: cs,i,h,k=>by
  simp only [Av6,Bool.and_eq_true,decide_eq_true_eq] at h
  simp only [AE6] at k
  exact ⟨h.1,k.1,BE1 h.2 k.2⟩
 | [],[],_ :: _,_,_,k=>by simp [AE6] at k
 | [],_ :: _,_,_,h,_=>by simp [Av6] at h
 | _ :: _,[],_,_,h,_=>by simp [Av6] at h
 | _ :: _,_ :: _,[],_,_,k=>by simp [AE6] at k
 | .mv _ _ :: _,_ :: _,_,_,h,_=>by simp [Av6] at h
 | .io _ _ _ _ _ :: _,_ :: _,_,_,h,_=>by simp [Av6] at h
theorem Ae5:∀ {ds ds':List Dyn} {cs cs':List (List Value)},AE6 S w ds cs → AE6 S w ds' cs' → AE6 S w (ds ++ ds') (cs ++ cs') ∧ yE (ds ++ ds') (cs ++ cs') = yE ds cs ++ yE ds' cs'
 | [],_,[],_,_,h=>⟨h,by simp [yE]⟩
 | d :: ds,ds',c :: cs,cs',h,h'=>by
  simp only [AE6] at h
  obtain ⟨q1,q2⟩:=Ae5 h.2 h'
  exact ⟨⟨h.1,q1⟩,by simp only [List.cons_append,yE,q2]⟩
 | [],_,_ :: _,_,h,_=>by simp [AE6] at h
 | _ :: _,_,[],_,h,_=>by simp [AE6] at h
theorem A1s:∀ {cs:FCaps} {l:List Value},nW S w cs l → ∃ c,AE6 S w (dD cs) c ∧ yE (dD cs) c = l
 | .nil,l,h=>by simp only [nW] at h;subst h;exact ⟨[],by simp [dD,AE6],by simp [dD,yE]⟩
 | .int k n r,l,h=>by
  simp only [nW] at h
  obtain ⟨b,l',rfl,h1,h2,h3⟩:=h
  obtain ⟨c,q1,q2⟩:=A1s h3
  refine ⟨[.pointer (some ⟨b,0,none⟩)] :: c,⟨?_,q1⟩,by simp only [dD,yE,q2];rfl⟩
  simp only [Rd]
  exact ⟨b,_,rfl,h1,h2,rfl,rfl⟩
 | .fn v r,l,h=>by
  simp only [nW] at h
  obtain ⟨b,u,l',rfl,h1,h2,h3,h4⟩:=h
  obtain ⟨c,q1,q2⟩:=A1s h4
  refine ⟨[.pointer (some ⟨b,0,none⟩)] :: c,⟨?_,q1⟩,by simp only [dD,yE,q2];rfl⟩
  simp only [Rd]
  exact ⟨b,_,rfl,h1,h2,rfl,u,rfl,h3⟩
theorem Ah0:∀ {ts:List (Option Ty)} {xs:List Operand} {ds:List Dyn},Rel H N g V w S β → dX g ts xs = some ds → ∃ cs,AE6 (A3b S β) w ds cs ∧ xs.map (evl V ·) = (yE ds cs).map some
 | [],[],ds,_,h=>by simp only [dX,Option.some.injEq] at h;subst h;exact ⟨[],by simp [AE6],by simp [yE]⟩
 | some t :: ts,x :: xs,ds,hr,h=>by
  simp only [dX] at h
  split at h
  ·rename_i d hd
   split at h
   ·obtain ⟨ds',h',rfl⟩:=Option.map_eq_some_iff.1 h
    obtain ⟨cs,q1,q2⟩:=Ah0 hr h'
    obtain ⟨c,e1,e2⟩:=rJ hr hd
    exact ⟨c :: cs,⟨e2,q1⟩,by simp only [List.map_cons,yE,q2,e1]⟩
   ·cases h
  ·cases h
 | [],_ :: _,_,_,h=>by simp [dX] at h
 | none :: _,_,_,_,h=>by simp [dX] at h
 | some _ :: _,[],_,_,h=>by simp [dX] at h
theorem Ar8 (hs:Sub gv g):∀ {ts:List (Option Ty)} {xs:List Operand} {ds:List Dyn},dX gv ts xs = some ds → dX g ts xs = some ds
 | [],[],ds,h=>h
 | some t :: ts,x :: xs,ds,h=>by
  simp only [dX] at h ⊢
  split at h
  ·rename_i d hd
   rw [tQ hs hd]
   simp only
   split at h
   ·rename_i hc
    rw [if_pos hc]
    obtain ⟨ds',h',rfl⟩:=Option.map_eq_some_iff.1 h
    rw [Ar8 hs h'];rfl
   ·cases h
  ·cases h
 | [],_ :: _,_,h=>by simp [dX] at h
 | none :: _,_,_,h=>by simp [dX] at h
 | some _ :: _,[],_,h=>by simp [dX] at h
theorem A70 {ρ:Operand → Value} {c:Call} {s:Nat} {f:FuncId} {l:List Value} (ho:o.op = .call c) (hcal:c.callee = .value (.tmp s)) (hρ:ρ (.tmp s) = .func (.func f) #[] l.toArray):
  execOp ρ o = callFunc f (c.args.map ρ ++ l.toArray):=by
 unfold execOp
 simp [ho,resolve,hcal,Deferred.ofValue,invoke,hρ]
theorem A74 {τ t:Ty} (h:t = .pair τ .unit) {f:Fl} {x:t.D} {crs:List (List Value)} (hr:oX S β w 1 0 t f x crs) (hf:f.l.whole = true) (hc:rY τ .sh = true):
  ∃ c,Rd S' w τ ((cast (congrArg Ty.D h) x:(Ty.pair τ .unit).D)).1 c ∧ Ag3 (lL 1 t crs) = yA τ c:=by
 subst h
 match crs,hr with
 | [c],hr=>
  simp only [oX] at hr
  exact ⟨c,aV (dO hc) (vW (S':=fun _=>True) hf (fun _ _=>trivial) (fun _ _ _=>trivial) hr.1),rfl⟩
 | [],hr=>simp [oX] at hr
 | _ :: _ :: _,hr=>simp [oX] at hr
theorem A2H {R:Run E} {c:Call} {s:Nat} {v:FnVal} {ff:Fl} (hR:Aw6 E R) (hc:Ctx E.P H S β a w o g) (hs:Sub gv g) (hm:o.op = .call c) (hcal:c.callee = .value (.tmp s))
  (hd:yV gv (gv s).sv = some ⟨.fn,v,ff⟩) (hk:AD3 E R gv o v c.args.toList c.argTypes.toList some = some us):yM E.P H S β a w o (g.ups us):=by
 unfold AD3 at hk
 split at hk
 ·rename_i ds τ h1 h2
  split at hk
  ·rename_i hcl
   obtain ⟨y,hy,hk⟩:=Option.bind_eq_some_iff.1 hk
   obtain ⟨d,hdst,rfl⟩:=yN hk
   have hdN:=xS hc.opIn hdst
   unfold A9j at hy
   split at hy
   ·cases hy
   ·rename_i f caps
    split at hy
    ·rename_i hrt
     split at hy
     ·rename_i hcond
      simp only [Bool.and_eq_true] at hcond
      obtain ⟨⟨hn,hros⟩,hwh⟩:=hcond
      obtain ⟨x,hx,rfl⟩:=Option.map_eq_some_iff.1 hy
      have hn1:(E.cfg f).nres = 1:=Nat.eq_of_beq_eq_true hn
      obtain ⟨cf,hcf,hrd⟩:=rJ (x:=.tmp s) hc.rel (tQ (x:=.tmp s) hs hd)
      simp only [Rd] at hrd
      obtain ⟨u,rfl,hfn⟩:=hrd
      simp only [A10] at hfn
      obtain ⟨l,rfl,hcaps⟩:=hfn
      obtain ⟨cc,k1,k2⟩:=A1s hcaps
      obtain ⟨cs,q1,q2⟩:=Ah0 hc.rel (Ar8 hs h1)
      obtain ⟨j1,j2⟩:=Ae5 q1 k1
      have he:=A70 (o:=o) (l:=l) hm hcal (zJ hcf)
      intro K Q hK
      refine BA8 he ?_
      have hargs:(yE (ds ++ dD caps) (cs ++ cc)).toArray = c.args.map a.eval ++ l.toArray:=by
       apply Array.toList_inj.1
       rw [j2,k2]
       have:=An7 q2
       simp [← this]
      rw [← hargs]
      have hseen:∀ b,A3b S β b → b < w.heap.size:=fun b hb=>by
       rcases hb with hb | ⟨k,hb⟩
       ·exact hc.rel.sane.liveS b hb
       ·exact hc.rel.sane.live k b hb
      refine (hR f _ x hx w (A3b S β) (fun _=>none) _ ⟨fun _ _ _ h=>by simp at h,fun _ _ h=>by simp at h,fun _ _ h=>by simp at h,hseen,hc.rel.sane.tabs fun b hb=>⟨.inl hb,rfl⟩⟩ (BE1 hros j1)).mono
       fun v w2 ⟨S2,β2,crs,s1,s2,s3,s4,s5⟩=>?_
      have heap:∀ b,b < w.heap.size → w2.heap[b]? = w.heap[b]?:=fun b hb=>s2.old b hb (fun k=>by simp)
      have hsane:Sane w2 S β:=⟨hc.rel.sane.inj,hc.rel.sane.sep,fun k b h=>Nat.lt_of_lt_of_le (hc.rel.sane.live k b h) s2.size,fun b h=>Nat.lt_of_lt_of_le (hc.rel.sane.liveS b h) s2.size,hc.rel.sane.tabs fun b hb=>⟨hb,heap b (hc.rel.sane.liveS b hb)⟩⟩
      have hstep:Step w S β w2 S β:=⟨s2.size,fun b hb _=>heap b hb,fun k b h=>.inl ⟨k,h⟩,fun _ h=>h,fun _ h=>.inl h,s2.out⟩
      refine hK _ _ _ _ vC yW ?_ hstep
      rw [hdst,uF hdN]
      rw [hn1] at s3 s4
      obtain ⟨c,hrd,hval⟩:=A74 (S':=S) hrt s3 hwh hcl
      exact hc.rel.put hsane (fun b hb=>⟨hb,heap b (hc.rel.sane.liveS b hb)⟩) (fun j s b _ _ hb=>⟨hb,heap b (hc.rel.sane.live _ _ hb)⟩) (fun j hj=>by simp [upd,hj])
       (Al9 hrd (s4.trans hval))
     ·cases hy
    ·cases hy
  ·cases hk
 ·cases hk
theorem BJ1 {R:Run E} (hR:Aw6 E R):AU1 E R:=by
 intro H S β a w o g gv us hc hs
 exact ⟨fun c f hm hcal hk=>A5Y hR hc hs hm hcal hk,fun c s v f hm hcal hd hk=>A2H hR hc hs hm hcal hd hk⟩
end
end Go.Rf

end
section
namespace Go.Rf
set_option linter.unusedSectionVars false
variable [T:Laid]
section
variable {P:Program} {H:Nat → Option (List Value)} {N:Nat} {g g' G σ:yB} {V V' V0:Nat → Option Value} {w w' w2:World} {S S' S2:Nat → Prop} {β β' β2:Key → Option Nat} {a:Act} {o:Oper}
variable {E:Env} {gv:yB} {us:List Up}
structure Ent where
 m:Nat
 slot:Nat
 path:Key
 t:Ty
 f:Fl
def Ent.key (e:Ent):Key:=e.slot :: e.path
def BZ3 (L:List Ent) (β:Key → Option Nat) (k:Key) (b:Nat):Prop:=∃ e ∈ L,∃ s,k = e.m :: s ∧ rW e.t e.f s = true ∧ β (e.key ++ s) = some b
open Classical in
noncomputable def A2e (L:List Ent) (β:Key → Option Nat) (k:Key):Option Nat:=if h:∃ b,BZ3 L β k b then some h.choose else none
def BZ4 (L:List Ent) (S:Nat → Prop) (β:Key → Option Nat):Nat → Prop:=fun b=>S b ∨ ((∃ k,β k = some b) ∧ ¬ ∃ k,A2e L β k = some b)
structure Apart (L:List Ent):Prop where
 m:∀ e ∈ L,∀ e' ∈ L,e.m = e'.m → e = e'
 slot:∀ e ∈ L,∀ e' ∈ L,e.slot = e'.slot → e = e'
theorem eM {L:List Ent} {k:Key} {b:Nat} (h:A2e L β k = some b):BZ3 L β k b:=by
 unfold A2e at h
 split at h
 ·rename_i hb
  simp only [Option.some.injEq] at h;rw [← h];exact hb.choose_spec
 ·cases h
theorem BJ6 {L:List Ent} (hL:Apart L) {e:Ent} (he:e ∈ L) {s:Key} {b:Nat} (ho:rW e.t e.f s = true) (hb:β (e.key ++ s) = some b):A2e L β (e.m :: s) = some b:=by
 have hx:∃ b,BZ3 L β (e.m :: s) b:=⟨b,e,he,s,rfl,ho,hb⟩
 unfold A2e
 rw [dif_pos hx]
 obtain ⟨e',he',s',h1,h2,h3⟩:=hx.choose_spec
 simp only [List.cons.injEq] at h1
 have:=hL.m e he e' he' h1.1
 subst this
 rw [← h1.2,hb] at h3
 exact h3.symm
theorem BZ1 {L:List Ent} (hL:Apart L) (hs:Sane w S β):Sane w (BZ4 L S β) (A2e L β) ∧ Step w S β w (BZ4 L S β) (A2e L β) ∧
  ∀ e ∈ L,∀ f0 (x:e.t.D) c,zP S β H w e.key e.t f0 x c → Fl.le e.f f0 = true → zP (BZ4 L S β) (A2e L β) H w [e.m] e.t e.f x c:=by
 refine ⟨⟨fun k k' b h h'=>?_,fun k b h hb=>?_,fun k b h=>?_,fun b hb=>?_,hs.tabs fun b hb=>⟨.inl hb,rfl⟩⟩,⟨Nat.le_refl _,fun _ _ _=>rfl,fun k b h=>?_,fun b hb=>.inl hb,fun b hb=>?_,.rfl'⟩,fun e he f0 x c hv hle=>?_⟩
 ·obtain ⟨e,he,s,rfl,_,h1⟩:=eM h
  obtain ⟨e',he',s',rfl,_,h1'⟩:=eM h'
  have:=hs.inj _ _ _ h1 h1'
  simp only [Ent.key,List.cons_append,List.cons.injEq] at this
  have e2:=hL.slot e he e' he' this.1
  subst e2
  rw [List.append_cancel_left this.2]
 ·obtain ⟨e,he,s,rfl,_,h1⟩:=eM h
  rcases hb with hb | ⟨_,hb⟩
  ·exact hs.sep _ _ h1 hb
  ·exact hb ⟨_,h⟩
 ·obtain ⟨e,he,s,rfl,_,h1⟩:=eM h
  exact hs.live _ _ h1
 ·rcases hb with hb | ⟨⟨k,hb⟩,_⟩
  ·exact hs.liveS b hb
  ·exact hs.live _ _ hb
 ·obtain ⟨e,he,s,rfl,_,h1⟩:=eM h
  exact .inl ⟨_,h1⟩
 ·rcases hb with hb | ⟨hb,_⟩
  ·exact .inl hb
  ·exact .inr (.inl hb)
 ·refine AF8 (fun b hb=>⟨.inl hb,rfl⟩) hle (fun s b hb=>⟨rfl,fun ho=>BJ6 hL he ho hb,fun ho=>?_⟩) hv
  refine .inr ⟨⟨_,hb⟩,fun ⟨k,hk⟩=>?_⟩
  obtain ⟨e',he',s',rfl,ho',h1⟩:=eM hk
  have:=hs.inj _ _ _ hb h1
  simp only [Ent.key,List.cons_append,List.cons.injEq] at this
  have e2:=hL.slot e he e' he' this.1
  subst e2
  rw [List.append_cancel_left this.2,ho'] at ho;cases ho
def BD2:ResultVar → Key
 | .tmp _=>[]
 | .cell _ _=>[0]
def qA:List ResultVar → Nat → Ty → Fl → List Ent
 | r :: rs,k,.pair a b,f=>⟨2 * k,Aa4 r,BD2 r,a,f.l⟩ :: qA rs (k + 1) b f.r
 | _,_,_,_=>[]
def qK:List Mode → Nat → List Ent
 | .io t _ fo s p :: ms,i=>⟨2 * i + 1,s,xP p,t,fo⟩ :: qK ms (i + 1)
 | .ro _ :: ms,i=>qK ms (i + 1)
 | .mv _ _ :: ms,i=>qK ms (i + 1)
 | [],_=>[]
theorem AH7:∀ {rs:List ResultVar} {k:Nat} {t:Ty} {f:Fl},∀ e ∈ qA rs k t f,∃ j,e.m = 2 * j ∧ k ≤ j
 | r :: rs,k,.pair a b,f,e,he=>by
  simp only [qA,List.mem_cons] at he
  rcases he with rfl | he
  ·exact ⟨k,rfl,Nat.le_refl _⟩
  ·obtain ⟨j,h1,h2⟩:=AH7 e he;exact ⟨j,h1,by omega⟩
 | [],_,_,_,_,he=>by simp [qA] at he
 | _ :: _,_,.int _,_,_,he | _ :: _,_,.bool,_,_,he | _ :: _,_,.str,_,_,he | _ :: _,_,.fn,_,_,he | _ :: _,_,.unit,_,_,he
 | _ :: _,_,.sl _,_,_,he | _ :: _,_,.ptr _,_,_,he | _ :: _,_,.arr _ _,_,_,he=>by simp [qA] at he
theorem Ao8:∀ {rs:List ResultVar} {k:Nat} {t:Ty} {f:Fl},∀ e ∈ qA rs k t f,∀ e' ∈ qA rs k t f,e.m = e'.m → e = e'
 | r :: rs,k,.pair a b,f,e,he,e',he',h=>by
  simp only [qA,List.mem_cons] at he he'
  rcases he with rfl | he <;> rcases he' with rfl | he'
  ·rfl
  ·obtain ⟨j,h1,h2⟩:=AH7 e' he';simp only at h;omega
  ·obtain ⟨j,h1,h2⟩:=AH7 e he;simp only at h;omega
  ·exact Ao8 e he e' he' h
 | [],_,_,_,_,he,_,_,_=>by simp [qA] at he
 | _ :: _,_,.int _,_,_,he,_,_,_ | _ :: _,_,.bool,_,_,he,_,_,_ | _ :: _,_,.str,_,_,he,_,_,_ | _ :: _,_,.fn,_,_,he,_,_,_ | _ :: _,_,.unit,_,_,he,_,_,_
 | _ :: _,_,.sl _,_,_,he,_,_,_ | _ :: _,_,.ptr _,_,_,he,_,_,_ | _ :: _,_,.arr _ _,_,_,he,_,_,_=>by simp [qA] at he
theorem aZ:∀ {ms:List Mode} {i:Nat},∀ e ∈ qK ms i,∃ j,e.m = 2 * j + 1 ∧ i ≤ j
 | .io t _ fo s p :: ms,i,e,he=>by
  simp only [qK,List.mem_cons] at he
  rcases he with rfl | he
  ·exact ⟨i,rfl,Nat.le_refl _⟩
  ·obtain ⟨j,h1,h2⟩:=aZ e he;exact ⟨j,h1,by omega⟩
 | .ro _ :: ms,i,e,he=>by simp only [qK] at he;obtain ⟨j,h1,h2⟩:=aZ e he;exact ⟨j,h1,by omega⟩
 | .mv _ _ :: ms,i,e,he=>by simp only [qK] at he;obtain ⟨j,h1,h2⟩:=aZ e he;exact ⟨j,h1,by omega⟩
 | [],_,_,he=>by simp [qK] at he
theorem AK2:∀ {ms:List Mode} {i:Nat},∀ e ∈ qK ms i,∀ e' ∈ qK ms i,e.m = e'.m → e = e'
 | .io t _ fo s p :: ms,i,e,he,e',he',h=>by
  simp only [qK,List.mem_cons] at he he'
  rcases he with rfl | he <;> rcases he' with rfl | he'
  ·rfl
  ·obtain ⟨j,h1,h2⟩:=aZ e' he';simp only at h;omega
  ·obtain ⟨j,h1,h2⟩:=aZ e he;simp only at h;omega
  ·exact AK2 e he e' he' h
 | .ro _ :: ms,i,e,he,e',he',h=>by simp only [qK] at he he';exact AK2 e he e' he' h
 | .mv _ _ :: ms,i,e,he,e',he',h=>by simp only [qK] at he he';exact AK2 e he e' he' h
 | [],_,_,he,_,_,_=>by simp [qK] at he
theorem nV:∀ {ms:List Mode} {i:Nat},(qK ms i).map Ent.slot = fG ms
 | .io t _ fo s p :: ms,i=>by simp only [qK,fG,List.map_cons,nV]
 | .ro _ :: ms,i=>by simp only [qK,fG];exact nV
 | .mv _ _ :: ms,i=>by simp only [qK,fG];exact nV
 | [],_=>rfl
theorem jZ:∀ {rs:List ResultVar} {k:Nat} {t:Ty} {f:Fl},∀ s ∈ (qA rs k t f).map Ent.slot,s ∈ rs.map Aa4
 | r :: rs,k,.pair a b,f,s,hs=>by
  simp only [qA,List.map_cons,List.mem_cons] at hs ⊢
  exact hs.imp id fun h=>jZ s h
 | [],_,_,_,_,he=>by simp [qA] at he
 | _ :: _,_,.int _,_,_,he | _ :: _,_,.bool,_,_,he | _ :: _,_,.str,_,_,he | _ :: _,_,.fn,_,_,he | _ :: _,_,.unit,_,_,he
 | _ :: _,_,.sl _,_,_,he | _ :: _,_,.ptr _,_,_,he | _ :: _,_,.arr _ _,_,_,he=>by simp [qA] at he
theorem A8M {l l':List Nat} (h:lT (l ++ l') = true):lT l = true ∧ lT l' = true ∧ ∀ x ∈ l,x ∉ l':=by
 induction l with
 | nil=>exact ⟨rfl,h,by simp⟩
 | cons x l ih=>
  obtain ⟨h1,h2⟩:=AC9 (x:=x) h
  obtain ⟨q1,q2,q3⟩:=ih h2
  refine ⟨?_,q2,fun y hy=>?_⟩
  ·simp only [lT,Bool.and_eq_true,Bool.not_eq_true']
   refine ⟨?_,q1⟩
   cases hb:l.any (Nat.beq x ·) with
   | false=>rfl
   | true=>
    obtain ⟨y,hy,e⟩:=List.any_eq_true.1 hb
    have:=Nat.eq_of_beq_eq_true e
    subst this
    exact absurd (List.mem_append_left _ hy) h1
  ·rcases List.mem_cons.1 hy with rfl | hy
   ·exact fun hy'=>h1 (List.mem_append_right _ hy')
   ·exact q3 y hy
theorem AD5:∀ {rs:List ResultVar} {k:Nat} {t:Ty} {f:Fl},lT (rs.map Aa4) = true → ∀ e ∈ qA rs k t f,∀ e' ∈ qA rs k t f,e.slot = e'.slot → e = e'
 | r :: rs,k,.pair a b,f,hn,e,he,e',he',h=>by
  simp only [List.map_cons] at hn
  obtain ⟨h1,h2⟩:=AC9 hn
  simp only [qA,List.mem_cons] at he he'
  rcases he with rfl | he <;> rcases he' with rfl | he'
  ·rfl
  ·simp only at h
   exact absurd (jZ _ (List.mem_map.2 ⟨e',he',h.symm⟩)) h1
  ·simp only at h
   exact absurd (jZ _ (List.mem_map.2 ⟨e,he,h⟩)) h1
  ·exact AD5 h2 e he e' he' h
 | [],_,_,_,_,_,he,_,_,_=>by simp [qA] at he
 | _ :: _,_,.int _,_,_,_,he,_,_,_ | _ :: _,_,.bool,_,_,_,he,_,_,_ | _ :: _,_,.str,_,_,_,he,_,_,_ | _ :: _,_,.fn,_,_,_,he,_,_,_ | _ :: _,_,.unit,_,_,_,he,_,_,_
 | _ :: _,_,.sl _,_,_,_,he,_,_,_ | _ :: _,_,.ptr _,_,_,_,he,_,_,_ | _ :: _,_,.arr _ _,_,_,_,he,_,_,_=>by simp [qA] at he
theorem jP:∀ {ms:List Mode} {i:Nat},lT (fG ms) = true → ∀ e ∈ qK ms i,∀ e' ∈ qK ms i,e.slot = e'.slot → e = e'
 | .io t _ fo s p :: ms,i,hn,e,he,e',he',h=>by
  simp only [fG] at hn
  obtain ⟨h1,h2⟩:=AC9 hn
  simp only [qK,List.mem_cons] at he he'
  rcases he with rfl | he <;> rcases he' with rfl | he'
  ·rfl
  ·simp only at h
   exact absurd (by rw [← nV (i:=i + 1)];exact List.mem_map.2 ⟨e',he',h.symm⟩) h1
  ·simp only at h
   exact absurd (by rw [← nV (i:=i + 1)];exact List.mem_map.2 ⟨e,he,h⟩) h1
  ·exact jP h2 e he e' he' h
 | .ro _ :: ms,i,hn,e,he,e',he',h=>by simp only [qK] at he he';exact jP (ms:=ms) hn e he e' he' h
 | .mv _ _ :: ms,i,hn,e,he,e',he',h=>by simp only [qK] at he he';exact jP (ms:=ms) hn e he e' he' h
 | [],_,_,_,he,_,_,_=>by simp [qK] at he
theorem A7b {rs:List ResultVar} {ms:List Mode} {t:Ty} {f:Fl} (h:lT (rs.map Aa4 ++ fG ms) = true):Apart (qA rs 0 t f ++ qK ms 0):=by
 obtain ⟨h1,h2,h3⟩:=A8M h
 refine ⟨fun e he e' he' hm=>?_,fun e he e' he' hm=>?_⟩
 ·rcases List.mem_append.1 he with he | he <;> rcases List.mem_append.1 he' with he' | he'
  ·exact Ao8 e he e' he' hm
  ·obtain ⟨j,q,_⟩:=AH7 e he;obtain ⟨j',q',_⟩:=aZ e' he';omega
  ·obtain ⟨j,q,_⟩:=AH7 e' he';obtain ⟨j',q',_⟩:=aZ e he;omega
  ·exact AK2 e he e' he' hm
 ·rcases List.mem_append.1 he with he | he <;> rcases List.mem_append.1 he' with he' | he'
  ·exact AD5 h1 e he e' he' hm
  ·have q:=jZ _ (List.mem_map.2 ⟨e,he,rfl⟩)
   have q':e'.slot ∈ fG ms:=by rw [← nV (i:=0)];exact List.mem_map.2 ⟨e',he',rfl⟩
   rw [← hm] at q';exact absurd q' (h3 _ q)
  ·have q:=jZ _ (List.mem_map.2 ⟨e',he',rfl⟩)
   have q':e.slot ∈ fG ms:=by rw [← nV (i:=0)];exact List.mem_map.2 ⟨e,he,rfl⟩
   rw [hm] at q';exact absurd q' (h3 _ q)
  ·exact jP h2 e he e' he' hm
end
end Go.Rf

end
section
namespace Go.Rf
set_option linter.unusedSectionVars false
variable [T:Laid]
section
variable {P:Program} {H:Nat → Option (List Value)} {N:Nat} {g g' G:yB} {V V' V0:Nat → Option Value} {w w' w2:World} {S S' S2:Nat → Prop} {β β' β2:Key → Option Nat} {a:Act} {o:Oper}
variable {E:Env} {gv:yB} {us:List Up} {σ:List SV}
def BX8 (tmps:Array Value):ResultVar → Sem Value
 | .tmp t=>pure (tmps.getD t undef)
 | .cell a t=>do loadVar t (← asAddr (tmps.getD a undef))
theorem A4Q {fn:Func} {tmps:Array Value} {vs:List Value} (h:(fn.results.toList.mapM (BX8 tmps)).run P w = .ok vs w):(results fn tmps).run P w = .ok (Ag3 vs) w:=by
 have e:(fn.results.mapM (BX8 tmps)).run P w = .ok vs.toArray w:=by
  rw [Array.mapM_eq_mapM_toList]
  simp [h]
 have e2:results fn tmps = (do let vs ← fn.results.mapM (BX8 tmps);pure (if h:vs.size = 1 then vs[0] else .tuple vs)):=by
  unfold results
  congr
 rw [e2]
 simp only [Sem.run_bind,e,Result.andThen_ok]
 match vs with
 | []=>rfl
 | [v]=>rfl
 | _ :: _ :: _=>rfl
theorem RelS.dat (h:RelS H σ a w S β) {i:Nat} {d:Dat} (hd:σ.getD i .dead = .dat d):(at? (iW σ) i).sv = .dat d ∧ ∃ c,zP S β H w [i] d.t d.f d.x c ∧ oR a i = some (yA d.t c):=by
 have hs:(at? (iW σ) i).sv = .dat d:=by
  rw [gM]
  rw [List.getD] at hd
  cases he:σ[i]? with
  | none=>rw [he] at hd;cases hd
  | some v=>rw [he] at hd;exact hd
 exact ⟨hs,h.rel.dat hs⟩
theorem A2T {i:Nat} {v:Value} (h:oR a i = some v):a.tmps.getD i undef = v:=by
 simp only [oR] at h
 rw [Array.getD_eq_getD_getElem?,h];rfl
def Mode.np:Mode → Bool
 | .io _ _ fo _ _=>fo.nopin
 | _=>true
def BW4:Nat → Fl → Fl
 | 0,f=>f
 | n + 1,f=>BW4 n f.r
theorem A6L {s t:Ty} {x:s.D} {y:t.D} (h:lV s t x = some y):∃ e:s = t,e ▸ x = y:=by
 unfold lV at h
 split at h
 ·rename_i e;exact ⟨e,Option.some.inj h⟩
 ·cases h
theorem Ba2 {r:ResultVar} {d:Dat} (h:RelS H σ a w S β) (hr:A2Q E σ r = some d):
  ∃ c,zP S β H w (Aa4 r :: BD2 r) d.t d.f d.x c ∧ (BX8 a.tmps r).run E.P w = .ok (yA d.t c) w:=by
 cases r with
 | tmp s=>
  simp only [A2Q] at hr
  split at hr
  ·rename_i d' hd
   simp only [Option.some.injEq] at hr;subst hr
   obtain ⟨_,c,hv,hV⟩:=h.dat hd
   exact ⟨c,hv,by simp only [BX8];rw [A2T hV];rfl⟩
  ·cases hr
 | cell s ty=>
  simp only [A2Q] at hr
  split at hr
  ·rename_i t x f hd
   split at hr
   ·rename_i hc
    simp only [Option.some.injEq] at hr;subst hr
    simp only [Bool.and_eq_true,decide_eq_true_eq,Bool.not_eq_true'] at hc
    obtain ⟨_,c,hv,hV⟩:=h.dat hd
    have hg:=tP hc.2
    have key:∃ b cs,c = [.pointer (some ⟨b,0,none⟩)] ∧ Blk w b cs ∧ cs.size = t.size ∧ zP S β H w [s,0] t f.e x cs.toList:=by
     rw [oY]
     simp only [zP] at hv
     have hv:=hv.2
     cases hf:f.base with
     | own e=>
      rw [hf] at hv
      obtain ⟨b,cs,q1,q2,q3,q4,q5⟩:=hv
      exact ⟨b,cs,q1,q3.blk,q4,q5⟩
     | gone=>exact absurd hf hg
     | sh=>
      rw [hf] at hv;simp only [Rd] at hv
      obtain ⟨b,cs,q1,q2,q3,q4,q5⟩:=hv
      exact ⟨b,cs,q1,q3,q4,yQ.2 q5⟩
     | pr e1 e2=>
      rw [hf] at hv;simp only [Rd] at hv
      obtain ⟨b,cs,q1,q2,q3,q4,q5⟩:=hv
      refine ⟨b,cs,q1,q3,q4,?_⟩
      have hl:=sW q5
      cases t <;> simp only [Fl.e,zP,Fl.base,nQ,Fl.pins] <;> exact ⟨by simp,hl⟩
     | ar e1=>
      rw [hf] at hv;simp only [Rd] at hv
      obtain ⟨b,cs,q1,q2,q3,q4,q5⟩:=hv
      refine ⟨b,cs,q1,q3,q4,?_⟩
      have hl:=sW q5
      cases t <;> simp only [Fl.e,zP,Fl.base,nQ,Fl.pins] <;> exact ⟨by simp,hl⟩
     | pin k e=>exact absurd hf zQ
    obtain ⟨b,cs,rfl,hB,hz,hv'⟩:=key
    refine ⟨cs.toList,hv',?_⟩
    have hcell:zF w t.size (.mem b 0) = some cs.toList:=by
     obtain ⟨e,fz,hb⟩:=hB
     simp only [zF,hb]
     rw [if_pos (by omega)]
     rw [show t.size = cs.toList.length by simp [hz],bH]
    simp only [BX8]
    rw [A2T hV]
    simp only [Sem.run_bind]
    rw [show (asAddr (yA (.ptr t) [.pointer (some ⟨b,0,none⟩)])).run E.P w = .ok ⟨b,0,none⟩ w from rfl]
    simp only [Result.andThen_ok]
    exact Ai4 hc.1 hcell
   ·cases hr
  ·cases hr
theorem A13 {α:Type} {o:Option α} {l:List (Option α)} {ds:List α} (h:AI2 (o :: l) = some ds):∃ d ds',o = some d ∧ AI2 l = some ds' ∧ ds = d :: ds':=by
 cases o with
 | none=>simp [AI2] at h
 | some d=>
  simp only [AI2] at h
  obtain ⟨ds',h1,h2⟩:=Option.map_eq_some_iff.1 h
  exact ⟨d,ds',rfl,h1,h2.symm⟩
theorem Ae0 {d:Dat} {ds:List Dat} {t:Ty} {f:Fl} {x:t.D} (h:AC7 (d :: ds) t f = some x):
  ∃ (a b:Ty) (e:t = .pair a b) (y:(Ty.pair a b).D),e ▸ x = y ∧ Fl.le f.l d.f = true ∧ lV d.t a d.x = some y.1 ∧ AC7 ds b f.r = some y.2:=by
 cases t with
 | pair a b=>
  simp only [AC7] at h
  split at h
  ·rename_i hle
   obtain ⟨y,h1,h2⟩:=Option.bind_eq_some_iff.1 h
   obtain ⟨z,h3,h4⟩:=Option.map_eq_some_iff.1 h2
   exact ⟨a,b,rfl,x,rfl,hle,by rw [h1,← h4],by rw [h3,← h4]⟩
  ·cases h
 | _=>simp [AC7] at h
theorem A25 {L:List Ent} (hT:∀ e ∈ L,∀ f0 (x:e.t.D) c,zP S β H w e.key e.t f0 x c → Fl.le e.f f0 = true → zP S' β' H w [e.m] e.t e.f x c) (h:RelS H σ a w S β):
  ∀ {rs:List ResultVar} {ds es:List Dat} {k:Nat} {t:Ty} {f:Fl} {x:t.D},f.nopin = true → AI2 (rs.map (A2Q E σ)) = some ds → AC7 (ds ++ es) t f = some x → (∀ e ∈ qA rs k t f,e ∈ L) →
  ∃ crs,oX S' β' w rs.length k t f x crs ∧ (rs.mapM (BX8 a.tmps)).run E.P w = .ok (lL rs.length t crs) w ∧ AC7 es (A2z rs.length t) (BW4 rs.length f) = some (BQ6 rs.length t x)
 | [],ds,es,k,t,f,x,hf,h1,h2,hL=>by
  simp only [List.map_nil,AI2,Option.some.injEq] at h1
  subst h1
  exact ⟨[],by simp [oX],by simp [lL],h2⟩
 | r :: rs,ds,es,k,t,f,x,hf,h1,h2,hL=>by
  obtain ⟨d,ds',hr,h1',rfl⟩:=A13 h1
  obtain ⟨ta,tb,rfl,y,rfl,hle,hc,hcol⟩:=Ae0 (ds:=ds' ++ es) h2
  obtain ⟨e,hx⟩:=A6L hc
  obtain ⟨dt,dx,df⟩:=d
  simp only at e hx hle
  subst e
  simp only at hx
  obtain ⟨c,hv,hrun⟩:=Ba2 h hr
  simp only [qA,List.mem_cons,forall_eq_or_imp] at hL
  obtain ⟨crs,q1,q2,q3⟩:=A25 hT h (k:=k + 1) (BF4 hf) h1' hcol hL.2
  have hv':=hT _ hL.1 df dx c hv hle
  refine ⟨c :: crs,⟨cB (A43 hf) (hx ▸ hv'),q1⟩,?_,q3⟩
  simp only [List.mapM_cons,Sem.run_bind,hrun,Result.andThen_ok,q2,List.length_cons,lL]
  rfl
theorem Al6:∀ {p:List PS} {t:Ty} {f:Fl} {x:t.D} {d:Dat},Bn3 p = true → xA p t f x = some d → inB p t x
 | [],_,_,_,_,_,_=>by simp [inB]
 | .fst :: p,.pair a b,f,x,d,h,k=>by simp only [xA] at k;simp only [inB];exact Al6 (p:=p) h k
 | .snd :: p,.pair a b,f,x,d,h,k=>by simp only [xA] at k;simp only [inB];exact Al6 (p:=p) h k
 | .der :: p,.ptr t,f,x,d,h,k=>by simp only [xA] at k;simp only [inB];exact Al6 (p:=p) h k
 | .idx _ :: _,_,_,_,_,h,_=>by simp [Bn3] at h
 | .elm _ :: _,_,_,_,_,h,_=>by simp [Bn3] at h
theorem Ak8 {L:List Ent} {cs0:List (List Value)} (hT:∀ e ∈ L,∀ f0 (x:e.t.D) c,zP S β (fun i=>cs0[i]?) w e.key e.t f0 x c → Fl.le e.f f0 = true → zP S' β' (fun i=>cs0[i]?) w [e.m] e.t e.f x c) (h:RelS (fun i=>cs0[i]?) σ a w S β):
  ∀ {ms:List Mode} {es:List Dat} {i:Nat} {cs:List (List Value)} {t:Ty} {f:Fl} {x:t.D},Am4 σ ms i = some es → AC7 es t f = some x → (∀ e ∈ qK ms i,e ∈ L) → cs.length = ms.length → (∀ j,cs[j]? = cs0[i + j]?) →
   (∀ m ∈ ms,m.np = true) → AR7 S' β' w ms cs i t x
 | [],es,i,cs,t,f,x,h1,h2,hL,hl,hc,hm=>by
  match cs,hl with
  | [],_=>simp [AR7]
 | .ro _ :: ms,es,i,cs,t,f,x,h1,h2,hL,hl,hc,hm=>by
  match cs,hl with
  | c :: cs,hl=>
   simp only [Am4] at h1;simp only [qK] at hL
   simp only [AR7]
   exact Ak8 hT h h1 h2 hL (by simpa using hl) (fun j=>by have:=hc (j + 1);rw [show i + (j + 1) = i + 1 + j by omega] at this;simpa using this) (fun m hm'=>hm m (by simp [hm']))
 | .mv _ _ :: ms,es,i,cs,t,f,x,h1,h2,hL,hl,hc,hm=>by
  match cs,hl with
  | c :: cs,hl=>
   simp only [Am4] at h1;simp only [qK] at hL
   simp only [AR7]
   exact Ak8 hT h h1 h2 hL (by simpa using hl) (fun j=>by have:=hc (j + 1);rw [show i + (j + 1) = i + 1 + j by omega] at this;simpa using this) (fun m hm'=>hm m (by simp [hm']))
 | .io tm fi fo s p :: ms,es,i,cs,t,f,x,h1,h2,hL,hl,hc,hm=>by
  match cs,hl with
  | c :: cs,hl=>
   simp only [Am4] at h1
   split at h1
   ·rename_i d hd
    split at h1
    ·rename_i e hg
     split at h1
     ·rename_i j f' hef
      split at h1
      ·rename_i hcond
       simp only [Bool.and_eq_true,decide_eq_true_eq,Bool.not_eq_true'] at hcond
       obtain ⟨⟨⟨⟨hij,hle⟩,het⟩,hng⟩,hix⟩:=hcond
       have hij:=Nat.eq_of_beq_eq_true hij
       subst hij
       obtain ⟨es',h1',rfl⟩:=Option.map_eq_some_iff.1 h1
       obtain ⟨ta,tb,rfl,y,rfl,_,hcast,hcol⟩:=Ae0 h2
       obtain ⟨q,hx⟩:=A6L hcast
       obtain ⟨et,ex,ef⟩:=e
       simp only at het hef q hx
       subst q
       subst het
       subst hef
       simp only at hx
       obtain ⟨hsd,_⟩:=h.dat hd
       have hnb:(Fl.pin i f').base ≠ .gone:=by
        simp only [Fl.base];exact tP hng
       obtain ⟨cr,Lc,c2,_,_,_,_,_,hv⟩:=pU.at (h.rel.dat hsd) hg (Al6 hix hg) hnb
       have hpin:=vZ hv i (by simp [Fl.pins])
       have hc2:c2 = c:=by
        have e0:=hc 0
        simp only [List.getElem?_cons_zero,Nat.add_zero] at e0
        have hpin:cs0[i]? = some c2:=hpin
        rw [← e0] at hpin
        exact (Option.some.inj hpin).symm
       subst hc2
       simp only [qK,List.mem_cons,forall_eq_or_imp] at hL
       have hv':=hT _ hL.1 _ ex c2 hv hle
       have hfo:fo.nopin = true:=hm (.io et fi fo s p) (by simp)
       refine ⟨rfl,cB hfo (hx ▸ hv'),?_⟩
       exact Ak8 hT h h1' hcol hL.2 (by simpa using hl) (fun j=>by have:=hc (j + 1);rw [show i + (j + 1) = i + 1 + j by omega] at this;simpa using this) (fun m hm'=>hm m (by simp [hm']))
      ·cases h1
     ·cases h1
    ·cases h1
   ·cases h1
end
end Go.Rf

end
section
namespace Go.Rf
set_option linter.unusedSectionVars false
variable [T:Laid]
section
variable {P:Program} {H:Nat → Option (List Value)} {N:Nat} {g g' G:yB} {V V' V0:Nat → Option Value} {w w' w2:World} {S S' S2:Nat → Prop} {β β' β2:Key → Option Nat} {a:Act} {o:Oper}
variable {E:Env} {gv:yB} {us:List Up} {σ:List SV}
theorem Ay3 {cs0:List (List Value)}:∀ {ms:List Mode} {ds:List Dyn} {cs:List (List Value)} {i:Nat} {σ:List SV},qP ms ds i = some σ → tJ S β w ms ds cs i → (∀ j,cs[j]? = cs0[i + j]?) →
  σ.length = ms.length ∧ cs.length = ms.length ∧ (yE ds cs).length = ms.length ∧ (∀ m ∈ ms,m.np = true) ∧
  ∀ j v,σ[j]? = some v → ∃ (d:Dat) (c:List Value),v = .dat d ∧ (yE ds cs)[j]? = some (yA d.t c) ∧ zP S β (fun i=>cs0[i]?) w [i + j] d.t d.f d.x c
 | [],[],[],i,σ,h,_,_=>by
  simp only [qP,Option.some.injEq] at h
  subst h
  simp [yE]
 | m :: ms,d :: ds,c :: cs,i,σ,h,ha,hc=>by
  have hc':∀ j,cs[j]? = cs0[i + 1 + j]?:=fun j=>by have:=hc (j + 1);rw [show i + (j + 1) = i + 1 + j by omega] at this;simpa using this
  have hc0:cs0[i]? = some c:=by have:=hc 0;simpa using this.symm
  have next:∀ {t:Ty} {fl:Fl} {x:t.D} {σ':List SV},d.t = t → lV d.t t d.x = some x → qP ms ds (i + 1) = some σ' → σ = .dat ⟨t,x,fl⟩ :: σ' → tJ S β w ms ds cs (i + 1) →
    zP S β (fun i=>cs0[i]?) w [i] d.t fl d.x c → m.np = true →
    σ.length = (m :: ms).length ∧ (c :: cs).length = (m :: ms).length ∧ (yE (d :: ds) (c :: cs)).length = (m :: ms).length ∧ (∀ q ∈ m :: ms,q.np = true) ∧
    ∀ j v,σ[j]? = some v → ∃ (d':Dat) (c':List Value),v = .dat d' ∧ (yE (d :: ds) (c :: cs))[j]? = some (yA d'.t c') ∧ zP S β (fun i=>cs0[i]?) w [i + j] d'.t d'.f d'.x c':=by
   intro t fl x σ' ht hx hi hσ ha' hv hm
   subst ht
   unfold lV at hx
   rw [dif_pos rfl] at hx
   have hx:=Option.some.inj hx
   simp only at hx
   obtain ⟨q1,q2,q3,q4,q5⟩:=Ay3 hi ha' hc'
   subst hσ
   refine ⟨by simp [q1],by simp [q2],by simp [yE,q3],fun m' hm'=>?_,fun j v hj=>?_⟩
   ·rcases List.mem_cons.1 hm' with rfl | hm'
    ·exact hm
    ·exact q4 m' hm'
   ·cases j with
    | zero=>
     simp only [List.getElem?_cons_zero,Option.some.injEq] at hj
     subst hj
     exact ⟨_,c,rfl,by simp [yE],hx ▸ hv⟩
    | succ j=>
     obtain ⟨d',c',e1,e2,e3⟩:=q5 j v (by simpa using hj)
     exact ⟨d',c',e1,by simpa [yE] using e2,by rw [show i + (j + 1) = i + 1 + j by omega];exact e3⟩
  cases m with
  | ro t=>
   simp only [qP] at h
   obtain ⟨x,hx,h⟩:=Option.bind_eq_some_iff.1 h
   obtain ⟨σ',hi,hσ⟩:=Option.map_eq_some_iff.1 h
   simp only [tJ] at ha
   exact next ha.1 hx hi hσ.symm ha.2.2 (yQ.2 ha.2.1) rfl
  | mv t f=>
   simp only [qP] at h
   obtain ⟨x,hx,h⟩:=Option.bind_eq_some_iff.1 h
   obtain ⟨σ',hi,hσ⟩:=Option.map_eq_some_iff.1 h
   simp only [tJ] at ha
   exact next ha.1 hx hi hσ.symm ha.2.2.2 (cB ha.2.1 ha.2.2.1) rfl
  | io t f fo s p=>
   simp only [qP] at h
   obtain ⟨x,hx,h⟩:=Option.bind_eq_some_iff.1 h
   obtain ⟨σ',hi,hσ⟩:=Option.map_eq_some_iff.1 h
   simp only [tJ] at ha
   refine next ha.1 hx hi hσ.symm ha.2.2.2 ?_ ha.2.1.2
   have hv:zP S β (fun i=>cs0[i]?) w [i] d.t f d.x c:=cB ha.2.1.1 ha.2.2.1
   have hp:nQ (fun i=>cs0[i]?) (.pin i f) c:=fun k hk=>by
    simp only [Fl.pins,A0b ha.2.1.1,List.mem_singleton] at hk
    subst hk;exact hc0
   exact jG (f:=.pin i f) hp hv
 | [],[],_ :: _,_,_,_,ha,_=>by simp [tJ] at ha
 | [],_ :: _,_,_,_,h,_,_=>by simp [qP] at h
 | .ro _ :: _,[],_,_,_,h,_,_=>by simp [qP] at h
 | .mv _ _ :: _,[],_,_,_,h,_,_=>by simp [qP] at h
 | .io _ _ _ _ _ :: _,[],_,_,_,h,_,_=>by simp [qP] at h
 | .ro _ :: _,_ :: _,[],_,_,_,ha,_=>by simp [tJ] at ha
 | .mv _ _ :: _,_ :: _,[],_,_,_,ha,_=>by simp [tJ] at ha
 | .io _ _ _ _ _ :: _,_ :: _,[],_,_,_,ha,_=>by simp [tJ] at ha
theorem A2Y {f:FuncId} {fn:Func} {x:(E.cfg f).rt.D} {cs:List (List Value)} (h:RelS (fun i=>cs[i]?) σ a w S β) (hx:finish E f fn σ = some x) (hl:cs.length = (E.cfg f).modes.length)
  (hm:∀ m ∈ (E.cfg f).modes,m.np = true):∃ v,(results fn a.tmps).run E.P w = .ok v w ∧ Ret (E.cfg f) x cs w S β v w:=by
 unfold finish at hx
 split at hx
 ·rename_i hc
  simp only [Bool.and_eq_true] at hc
  obtain ⟨⟨h1,h2⟩,h3⟩:=hc
  have h2:=Nat.eq_of_beq_eq_true h2
  split at hx
  ·rename_i ds es hds hes
   obtain ⟨sane,step,tr⟩:=BZ1 (H:=fun i=>cs[i]?) (A7b (t:=(E.cfg f).rt) (f:=(E.cfg f).rf) h1) h.rel.sane
   obtain ⟨crs,q1,q2,q3⟩:=A25 (es:=es) (k:=0) tr h h3 hds hx (fun e he=>List.mem_append_left _ he)
   rw [show fn.results.toList.length = (E.cfg f).nres by simpa using h2] at q1 q2 q3
   refine ⟨_,A4Q q2,_,_,crs,sane,step,q1,rfl,?_⟩
   exact Ak8 tr h hes q3 (fun e he=>List.mem_append_right _ he) hl (fun j=>by simp) hm
  ·cases hx
 ·cases hx
def Ac2 (P:Program):Prop:=∀ (f:FuncId) (fn:Func),P.funcs[f]? = some fn → (fn.name == "runtime.NumGoroutine") = false
theorem BZ9 {R:Run E} {L:jU} (hR:AU1 E R) (hD:A1x E R) (hL:A5B E L) (hN:Ac2 E.P) {f:FuncId} {ds:List Dyn} {x:(E.cfg f).rt.D} (h:zD E R L f ds = some x):BW0 E f ds x:=by
 unfold zD at h
 split at h
 ·rename_i fn hfn
  split at h
  ·rename_i c σ hb hi
   split at h
   ·rename_i hcond
    simp only [Bool.and_eq_true] at hcond
    have hlen:=Nat.le_of_ble_eq_true hcond.1
    intro w S β cs hs ha
    obtain ⟨q1,q2,q3,q4,q5⟩:=Ay3 (cs0:=cs) hi ha (fun j=>by simp)
    refine .inl ⟨fn,hfn,hN f fn hfn,by rw [hb];rfl,calls_of_wp hfn hb ?_⟩
    have hsz:((yE ds cs).toArray ++ Array.replicate (fn.ntmps - (yE ds cs).toArray.size) undef).size = fn.ntmps:=by
     simp only [Array.size_append,List.size_toArray,Array.size_replicate];omega
    have hrel:RelS (fun i=>cs[i]?) (pad fn.ntmps σ) { tmps:=(yE ds cs).toArray ++ Array.replicate (fn.ntmps - (yE ds cs).toArray.size) undef,defers:=[] } w S β:=by
     refine ⟨by rw [hsz];simp [pad];omega,hs,fun i=>?_⟩
     rw [gM]
     by_cases hi:i < σ.length
     ·have hg:(pad fn.ntmps σ)[i]? = some σ[i]:=by
       unfold pad
       rw [List.getElem?_append_left hi,List.getElem?_eq_getElem hi]
      rw [hg]
      obtain ⟨d,cc,e1,e2,e3⟩:=q5 i σ[i] (List.getElem?_eq_getElem hi)
      simp only [e1]
      refine ⟨cc,by simpa using e3,?_⟩
      have hi':i < (yE ds cs).length:=by omega
      simp only [oR]
      rw [Array.getElem?_append_left (by simpa using hi')]
      simpa using e2
     ·have hg:∀ v,(pad fn.ntmps σ)[i]? = some v → v = .dead:=fun v hv=>by
       unfold pad at hv
       rw [List.getElem?_append_right (by omega),List.getElem?_replicate] at hv
       split at hv
       ·exact (Option.some.inj hv).symm
       ·cases hv
      cases hv:(pad fn.ntmps σ)[i]? with
      | none=>trivial
      | some v=>rw [hg v hv];trivial
    refine mC hR hD hL (by rw [show ({ tmps:=(yE ds cs).toArray ++ Array.replicate (fn.ntmps - (yE ds cs).toArray.size) undef,defers:=[] }:Act).tmps.size = fn.ntmps from hsz];exact hcond.2) hrel h ?_
    intro o a' w' S' β' ho e1 e2 h' hst
    have fin:finish E f fn o.σ = some x → bodyPost E.P fn (fun e w'=>match e,w' with | .returned v,w'=>Ret (E.cfg f) x cs w S β v w' | _,_=>False) .normal a' w':=fun hx=>by
     obtain ⟨v,r1,S2,β2,crs,r2,r3,r4,r5,r6⟩:=A2Y h' hx q2 q4
     exact ⟨e2,v,r1,S2,β2,crs,r2,hst.trans r3,r4,r5,r6⟩
    obtain ⟨e,σ'⟩:=o
    cases e with
    | nm=>exact fin ho
    | ret=>exact fin ho
    | ex id=>simp [Br6] at ho
   ·cases h
  ·cases h
 ·cases h
theorem BQ5 {R:Run E} {L:jU} (hR:AU1 E R) (hD:A1x E R) (ih:At2 E L):At2 E (Av3 E R L):=by
 intro H f b σ o a w S β Q hd h hrel hQ
 simp only [Av3] at h
 refine Ag7.round (mC hR hD ih.ok hd hrel h fun o' a' w' S' β' ho e1 e2 h' hst=>?_)
 obtain ⟨e,σ'⟩:=o'
 cases e with
 | nm=>
  simp only at ho
  exact ih H f b _ o a' w' S' β' Q (by rw [e1];exact hd) ho h'.killS fun a'' w'' S'' β'' f1 f2 h'' hst'=>hQ a'' w'' S'' β'' (f1.trans e1) (f2.trans e2) h'' (hst.trans hst')
 | ex id=>
  simp only [Option.some.injEq] at ho;subst ho
  exact hQ a' w' S' β' e1 e2 h' hst
 | ret=>
  simp only [Option.some.injEq] at ho;subst ho
  exact hQ a' w' S' β' e1 e2 h' hst
theorem A2c {X:(f:FuncId) → Option (List Dyn → Option (E.cfg f).rt.D)} (hX:∀ f h,X f = some h → ∀ ds x,h ds = some x → BW0 E f ds x) (hm:E.P.follows .mixedOrders = true) (hN:Ac2 E.P):
  ∀ k,Aw6 E (uW E X k).1 ∧ At2 E (uW E X k).2
 | 0=>⟨fun f ds x h=>by simp [uW] at h,fun H f b σ o a w S β Q _ h _ _=>by simp [uW] at h⟩
 | k + 1=>by
  obtain ⟨h1,h2⟩:=A2c hX hm hN k
  have hR:=BJ1 h1
  have hD:A1x E (uW E X k).1:=BX2 hR hm
  refine ⟨fun f ds x h=>?_,BQ5 hR hD h2⟩
  simp only [uW,AS5] at h
  split at h
  ·rename_i h' hx;exact hX f h' hx ds x h
  ·exact BZ9 hR hD h2.ok hN h
end
end Go.Rf

end
section
namespace Go.Rf
set_option linter.unusedSectionVars false
variable [T:Laid]
section
variable {E:Env} {ρ:Type}
def RLe (R R':Run E):Prop:=∀ f ds x,R f ds = some x → R' f ds = some x
def LLe (L L':jU):Prop:=∀ f b σ o,L f b σ = some o → L' f b σ = some o
theorem A73 {R:Run E} {g:yB} {o:Oper} {f:FuncId} {xs:List Operand} {us:List Up} (h:AR2 E R g o f xs some = some us):
  ∃ ds x,R f ds = some x ∧ ∀ R':Run E,R' f ds = some x → AR2 E R' g o f xs some = some us:=by
 unfold AR2 at h
 split at h
 ·rename_i p hp
  split at h
  ·rename_i ds lent hd
   split at h
   ·rename_i hc
    obtain ⟨x,hx,hk⟩:=Option.bind_eq_some_iff.1 h
    refine ⟨ds,x,hx,fun R' h'=>?_⟩
    unfold AR2
    rw [hp];simp only [hd]
    rw [if_pos hc,h']
    exact hk
   ·cases h
  ·cases h
 ·cases h
theorem BG4 {R:Run E} {g:yB} {o:Oper} {f:FuncId} {xs:List Operand} {us:List Up} (h:Ai7 E R g o f xs some = some us):
  ∃ ds x,R f ds = some x ∧ ∀ R':Run E,R' f ds = some x → Ai7 E R' g o f xs some = some us:=by
 unfold Ai7 at h
 rw [dL] at h
 obtain ⟨us0,h0,h1⟩:=Option.bind_eq_some_iff.1 h
 obtain ⟨ds,x,hx,hR⟩:=A73 h0
 refine ⟨ds,x,hx,fun R' h'=>?_⟩
 unfold Ai7
 rw [dL,hR R' h']
 exact h1
theorem A7P {R:Run E} {g:yB} {o:Oper} {v:FnVal} {xs:List Operand} {ts:List TypeId} {us:List Up} (h:AD3 E R g o v xs ts some = some us):
  ∃ f ds x,R f ds = some x ∧ ∀ R':Run E,R' f ds = some x → AD3 E R' g o v xs ts some = some us:=by
 unfold AD3 at h
 split at h
 ·rename_i ds τ h1 h2
  split at h
  ·rename_i hc
   obtain ⟨y,hy,hk⟩:=Option.bind_eq_some_iff.1 h
   unfold A9j at hy
   split at hy
   ·cases hy
   ·rename_i f cs
    split at hy
    ·rename_i hrt
     split at hy
     ·rename_i hcond
      obtain ⟨x,hx,e⟩:=Option.map_eq_some_iff.1 hy
      refine ⟨f,_,x,hx,fun R' h'=>?_⟩
      unfold AD3
      rw [h1,h2];simp only
      rw [if_pos hc]
      unfold A9j
      simp only
      rw [dif_pos hrt,if_pos hcond,h']
      simp only [Option.map_some,e]
      exact hk
     ·cases hy
    ·cases hy
  ·cases h
 ·cases h
theorem A9F {R:Run E} {mv:Bool} {g:yB} {o:Oper} {us:List Up} (h:opK E R mv g o some = some us):
  (∀ R':Run E,opK E R' mv g o some = some us) ∨ ∃ f ds x,R f ds = some x ∧ ∀ R':Run E,R' f ds = some x → opK E R' mv g o some = some us:=by
 unfold opK at h
 split at h
 case h_22=>
  rename_i c hop
  split at h
  ·rename_i b hcal
   left;intro R';unfold opK;rw [hop];simp only;rw [hcal];exact h
  ·rename_i f hcal
   obtain ⟨ds,x,h1,h2⟩:=BG4 h
   right
   refine ⟨f,ds,x,h1,fun R' h'=>?_⟩
   unfold opK;rw [hop];simp only;rw [hcal];exact h2 R' h'
  ·rename_i s hcal
   split at h
   ·rename_i v f hd
    obtain ⟨f',ds,x,h1,h2⟩:=A7P h
    right
    refine ⟨f',ds,x,h1,fun R' h'=>?_⟩
    unfold opK;rw [hop];simp only;rw [hcal];simp only;rw [hd];exact h2 R' h'
   ·cases h
  ·cases h
 all_goals first
  | (left;intro R';rename_i hop;unfold opK;rw [hop];exact h)
  | cases h
structure Tower (E:Env) where
 R:Nat → Run E
 L:Nat → jU
 Rw:Run E
 Lw:jU
 upR:∀ k,RLe (R k) (R (k + 1))
 upL:∀ k,LLe (L k) (L (k + 1))
 limR:∀ f ds x,Rw f ds = some x ↔ ∃ k,R k f ds = some x
 limL:∀ f b σ o,Lw f b σ = some o ↔ ∃ k,L k f b σ = some o
theorem RLe.trans' {R R' R'':Run E} (h:RLe R R') (h':RLe R' R''):RLe R R'':=fun f ds x k=>h' f ds x (h f ds x k)
theorem Tower.leR (T:Tower E) {j k:Nat} (h:j ≤ k):RLe (T.R j) (T.R k):=by
 induction k with
 | zero=>
  have:j = 0:=by omega
  subst this;exact fun _ _ _ h=>h
 | succ k ih=>
  rcases Nat.lt_or_ge k j with h' | h'
  ·have:j = k + 1:=by omega
   subst this;exact fun _ _ _ h=>h
  ·exact (ih h').trans' (T.upR k)
theorem Tower.leL (T:Tower E) {j k:Nat} (h:j ≤ k):LLe (T.L j) (T.L k):=by
 induction k with
 | zero=>
  have:j = 0:=by omega
  subst this;exact fun _ _ _ _ h=>h
 | succ k ih=>
  rcases Nat.lt_or_ge k j with h' | h'
  ·have:j = k + 1:=by omega
   subst this;exact fun _ _ _ _ h=>h
  ·exact fun f b σ o q=>T.upL k f b σ o (ih h' f b σ o q)
theorem A6p {R R':Run E} (hle:RLe R R') {mv:Bool} {g:yB} {o:Oper} {us:List Up} (h:opK E R mv g o some = some us):opK E R' mv g o some = some us:=by
 rcases A9F h with h' | ⟨f,ds,x,h1,h2⟩
 ·exact h' R'
 ·exact h2 R' (hle f ds x h1)
theorem AG3 {R R':Run E} (hle:RLe R R') {mv:List Nat} {all:List Oper} {draw:Bool} {κ κ':List Slot → Option ρ} (hκ:∀ l r,κ l = some r → κ' l = some r):∀ {os:List Oper} {i:Nat} {l:List Slot} {acc:List Rec} {r:ρ},
  eI E R mv all draw os i l acc κ = some r → eI E R' mv all draw os i l acc κ' = some r
 | [],i,l,acc,r,h=>by
  unfold eI at h ⊢
  split at h
  ·rename_i hd
   rw [if_pos hd]
   split at h
   ·rename_i hc;rw [if_pos hc];exact hκ _ _ h
   ·cases h
  ·rename_i hd;rw [if_neg hd];exact hκ _ _ h
 | o :: os,i,l,acc,r,h=>by
  have hgo:∀ {gs:List Nat} {l:List Slot},opK E R (mv.any (Nat.beq i ·)) (qY l (A1P o l)) o (fun us=>eI E R mv all draw os (i + 1) (iS l us) (acc ++ [AW5 (mv.any (Nat.beq i ·)) gs l o us]) κ) = some r →
    opK E R' (mv.any (Nat.beq i ·)) (qY l (A1P o l)) o (fun us=>eI E R' mv all draw os (i + 1) (iS l us) (acc ++ [AW5 (mv.any (Nat.beq i ·)) gs l o us]) κ') = some r:=fun {gs l} h=>by
   rw [AA0] at h ⊢
   obtain ⟨us,h1,h2⟩:=Option.bind_eq_some_iff.1 h
   rw [A6p hle h1]
   exact AG3 hle hκ h2
  have hskip:∀ {gs:List Nat} {l:List Slot},(match o.dst with
    | some d=>eI E R mv all draw os (i + 1) (upL l (.put d .und)) (acc ++ [⟨gs,[d],[],[d]⟩]) κ
    | none=>eI E R mv all draw os (i + 1) l (acc ++ [⟨gs,[],[],[]⟩]) κ) = some r →
    (match o.dst with
    | some d=>eI E R' mv all draw os (i + 1) (upL l (.put d .und)) (acc ++ [⟨gs,[d],[],[d]⟩]) κ'
    | none=>eI E R' mv all draw os (i + 1) l (acc ++ [⟨gs,[],[],[]⟩]) κ') = some r:=fun {gs l} h=>by
   cases hd:o.dst with
   | some d=>rw [hd] at h;exact AG3 hle hκ h
   | none=>rw [hd] at h;exact AG3 hle hκ h
  unfold eI at h ⊢
  simp only at h ⊢
  split at h
  ·exact hgo h
  ·rename_i j want hg
   split at h
   ·cases h
   ·rename_i g hgd
    split at h
    ·rename_i t hv
     cases t with
     | true=>
      simp only [cond_true] at h ⊢
      split at h
      ·rename_i hw;rw [if_pos hw];exact hgo h
      ·rename_i hw;rw [if_neg hw];exact hskip h
     | false=>
      simp only [cond_false] at h ⊢
      split at h
      ·rename_i hw;rw [if_pos hw];exact hskip h
      ·rename_i hw;rw [if_neg hw];exact hgo h
    ·exact hskip h
    ·cases h
theorem Ak6 (T:Tower E) {mv:List Nat} {all:List Oper} {draw:Bool} {κ:Nat → List Slot → Option ρ} {κw:List Slot → Option ρ} (hup:∀ j k,j ≤ k → ∀ l r,κ j l = some r → κ k l = some r) (hκ:∀ l r,κw l = some r → ∃ k,κ k l = some r):
  ∀ {os:List Oper} {i:Nat} {l:List Slot} {acc:List Rec} {r:ρ},eI E T.Rw mv all draw os i l acc κw = some r → ∃ k,eI E (T.R k) mv all draw os i l acc (κ k) = some r
 | [],i,l,acc,r,h=>by
  unfold eI at h ⊢
  split at h
  ·rename_i hd
   simp only [hd,if_true]
   split at h
   ·rename_i hc;simp only [hc,if_true];exact hκ _ _ h
   ·cases h
  ·rename_i hd
   simp only [hd];exact hκ _ _ h
 | o :: os,i,l,acc,r,h=>by
  have hgo:∀ {gs:List Nat} {l:List Slot},opK E T.Rw (mv.any (Nat.beq i ·)) (qY l (A1P o l)) o (fun us=>eI E T.Rw mv all draw os (i + 1) (iS l us) (acc ++ [AW5 (mv.any (Nat.beq i ·)) gs l o us]) κw) = some r →
    ∃ k,opK E (T.R k) (mv.any (Nat.beq i ·)) (qY l (A1P o l)) o (fun us=>eI E (T.R k) mv all draw os (i + 1) (iS l us) (acc ++ [AW5 (mv.any (Nat.beq i ·)) gs l o us]) (κ k)) = some r:=fun {gs l} h=>by
   rw [AA0] at h
   obtain ⟨us,h1,h2⟩:=Option.bind_eq_some_iff.1 h
   obtain ⟨k2,h2⟩:=Ak6 T hup hκ h2
   have h1':∃ k1,opK E (T.R k1) (mv.any (Nat.beq i ·)) (qY l (A1P o l)) o some = some us:=by
    rcases A9F h1 with h' | ⟨f,ds,x,q1,q2⟩
    ·exact ⟨0,h' _⟩
    ·obtain ⟨k1,q1⟩:=(T.limR f ds x).1 q1
     exact ⟨k1,q2 _ q1⟩
   obtain ⟨k1,h1'⟩:=h1'
   refine ⟨max k1 k2,?_⟩
   rw [AA0,A6p (T.leR (Nat.le_max_left k1 k2)) h1']
   exact AG3 (T.leR (Nat.le_max_right k1 k2)) (hup _ _ (Nat.le_max_right k1 k2)) h2
  have hskip:∀ {gs:List Nat} {l:List Slot},(match o.dst with
    | some d=>eI E T.Rw mv all draw os (i + 1) (upL l (.put d .und)) (acc ++ [⟨gs,[d],[],[d]⟩]) κw
    | none=>eI E T.Rw mv all draw os (i + 1) l (acc ++ [⟨gs,[],[],[]⟩]) κw) = some r →
    ∃ k,(match o.dst with
    | some d=>eI E (T.R k) mv all draw os (i + 1) (upL l (.put d .und)) (acc ++ [⟨gs,[d],[],[d]⟩]) (κ k)
    | none=>eI E (T.R k) mv all draw os (i + 1) l (acc ++ [⟨gs,[],[],[]⟩]) (κ k)) = some r:=fun {gs l} h=>by
   cases hd:o.dst with
   | some d=>rw [hd] at h;exact Ak6 T hup hκ h
   | none=>rw [hd] at h;exact Ak6 T hup hκ h
  unfold eI at h ⊢
  simp only at h ⊢
  split at h
  ·exact hgo h
  ·rename_i j want hg
   split at h
   ·cases h
   ·rename_i g hgd
    split at h
    ·rename_i t hv
     cases t with
     | true=>
      simp only [cond_true] at h ⊢
      split at h
      ·rename_i hw;simp only [hw,if_true];exact hgo h
      ·rename_i hw;simp only [hw];exact hskip h
     | false=>
      simp only [cond_false] at h ⊢
      split at h
      ·rename_i hw;simp only [hw,if_true];exact hskip h
      ·rename_i hw;simp only [hw];exact hgo h
    ·exact hskip h
    ·cases h
end
end Go.Rf

end
section
namespace Go.Rf
set_option linter.unusedSectionVars false
variable [T:Laid]
section
variable {E:Env} {ρ:Type}
theorem A3A {k k':List SV → (Out → Option ρ) → Option ρ} {κ κ':Out → Option ρ} (hk:∀ σ r,k σ κ = some r → k' σ κ' = some r) (hκ:∀ o r,κ o = some r → κ' o = some r):∀ o r,Bh2 k κ o = some r → Bh2 k' κ' o = some r:=by
 intro o r h
 obtain ⟨e,σ⟩:=o
 cases e with
 | nm=>exact hk σ r h
 | ex id=>exact hκ _ r h
 | ret=>exact hκ _ r h
theorem Am8 {id:Nat} {κ κ':Out → Option ρ} (hκ:∀ o r,κ o = some r → κ' o = some r):∀ o r,AU5 id κ o = some r → AU5 id κ' o = some r:=by
 intro o r h
 obtain ⟨e,σ⟩:=o
 cases e with
 | ex j=>
  simp only [AU5] at h ⊢
  split at h
  ·rename_i c;rw [if_pos c];exact hκ _ r h
  ·rename_i c;rw [if_neg c];exact hκ _ r h
 | nm=>exact hκ _ r h
 | ret=>exact hκ _ r h
theorem oI {R R':Run E} {L L':jU} {f:FuncId} (hR:RLe R R') (hL:LLe L L'):∀ {c:Code} {σ:List SV} {κ κ':Out → Option ρ} {r:ρ},(∀ o r,κ o = some r → κ' o = some r) → evB E R L f c σ κ = some r → evB E R' L' f c σ κ' = some r
 | .skip,σ,κ,κ',r,hκ,h=>hκ _ r h
 | .exit _,σ,κ,κ',r,hκ,h=>hκ _ r h
 | .ret,σ,κ,κ',r,hκ,h=>hκ _ r h
 | .region id ops draw,σ,κ,κ',r,hκ,h=>by
  simp only [evB,Ar0] at h ⊢
  exact AG3 hR (fun l r=>hκ _ r) h
 | .seq a b,σ,κ,κ',r,hκ,h=>by
  simp only [evB] at h ⊢
  exact oI hR hL (A3A (fun σ r=>oI hR hL hκ) hκ) h
 | .block id b,σ,κ,κ',r,hκ,h=>by
  simp only [evB] at h ⊢
  exact oI hR hL (Am8 hκ) h
 | .loop b,σ,κ,κ',r,hκ,h=>by
  simp only [evB,A1N] at h ⊢
  obtain ⟨o,h1,h2⟩:=Option.bind_eq_some_iff.1 h
  exact Option.bind_eq_some_iff.2 ⟨o,hL _ _ _ _ h1,hκ _ r h2⟩
 | .cond c a b,σ,κ,κ',r,hκ,h=>by
  simp only [evB] at h ⊢
  split at h
  ·split at h
   ·rename_i x hx
    cases x with
    | true=>simp only [cond_true] at h ⊢;exact oI hR hL hκ h
    | false=>simp only [cond_false] at h ⊢;exact oI hR hL hκ h
   ·split at h
    ·rename_i hu
     obtain ⟨h1,h2⟩:=Ad8 h
     rw [if_pos hu]
     exact A6e (oI hR hL hκ h1) (oI hR hL hκ h2)
    ·cases h
   ·cases h
  ·rename_i x
   cases x with
   | true=>simp only [cond_true] at h ⊢;exact oI hR hL hκ h
   | false=>simp only [cond_false] at h ⊢;exact oI hR hL hκ h
  ·cases h
 | .rangeFunc _ _ _ _,_,_,_,_,_,h | .scope _,_,_,_,_,_,h | .label _,_,_,_,_,_,h | .goto _,_,_,_,_,_,h | .refuse _,_,_,_,_,_,h=>by simp [evB] at h
theorem dS (T:Tower E) {f:FuncId}:∀ {c:Code} {σ:List SV} {κ:Nat → Out → Option ρ} {κw:Out → Option ρ} {r:ρ},(∀ j k,j ≤ k → ∀ o r,κ j o = some r → κ k o = some r) → (∀ o r,κw o = some r → ∃ k,κ k o = some r) →
  evB E T.Rw T.Lw f c σ κw = some r → ∃ k,evB E (T.R k) (T.L k) f c σ (κ k) = some r
 | .skip,σ,κ,κw,r,hup,hκ,h=>hκ _ r h
 | .exit _,σ,κ,κw,r,hup,hκ,h=>hκ _ r h
 | .ret,σ,κ,κw,r,hup,hκ,h=>hκ _ r h
 | .region id ops draw,σ,κ,κw,r,hup,hκ,h=>by
  simp only [evB,Ar0] at h ⊢
  exact Ak6 T (κ:=fun k l=>κ k ⟨.nm,AR8 (E.cfg f).keep l l 0⟩) (fun j k hjk l r=>hup j k hjk _ r) (fun l r=>hκ _ r) h
 | .seq a b,σ,κ,κw,r,hup,hκ,h=>by
  simp only [evB] at h ⊢
  refine dS T (κ:=fun k=>Bh2 (evB E (T.R k) (T.L k) f b) (κ k)) (fun j k hjk=>A3A (fun σ r=>oI (T.leR hjk) (T.leL hjk) (hup j k hjk)) (hup j k hjk)) (fun o r ho=>?_) h
  obtain ⟨e,σ'⟩:=o
  cases e with
  | nm=>exact dS T hup hκ ho
  | ex id=>exact hκ _ r ho
  | ret=>exact hκ _ r ho
 | .block id b,σ,κ,κw,r,hup,hκ,h=>by
  simp only [evB] at h ⊢
  refine dS T (κ:=fun k=>AU5 id (κ k)) (fun j k hjk=>Am8 (hup j k hjk)) (fun o r ho=>?_) h
  obtain ⟨e,σ'⟩:=o
  cases e with
  | ex j=>
   simp only [AU5] at ho ⊢
   split at ho
   ·rename_i c;simp only [c,if_true];exact hκ _ r ho
   ·rename_i c;simp only [c];exact hκ _ r ho
  | nm=>exact hκ _ r ho
  | ret=>exact hκ _ r ho
 | .loop b,σ,κ,κw,r,hup,hκ,h=>by
  simp only [evB,A1N] at h ⊢
  obtain ⟨o,h1,h2⟩:=Option.bind_eq_some_iff.1 h
  obtain ⟨k1,h1⟩:=(T.limL f b _ o).1 h1
  obtain ⟨k2,h2⟩:=hκ _ _ h2
  exact ⟨max k1 k2,Option.bind_eq_some_iff.2 ⟨o,T.leL (Nat.le_max_left _ _) _ _ _ _ h1,hup _ _ (Nat.le_max_right _ _) _ _ h2⟩⟩
 | .cond c a b,σ,κ,κw,r,hup,hκ,h=>by
  simp only [evB] at h ⊢
  split at h
  ·split at h
   ·rename_i x hx
    cases x with
    | true=>simp only [cond_true] at h ⊢;exact dS T hup hκ h
    | false=>simp only [cond_false] at h ⊢;exact dS T hup hκ h
   ·split at h
    ·rename_i hu
     obtain ⟨h1,h2⟩:=Ad8 h
     obtain ⟨k1,h1⟩:=dS T hup hκ h1
     obtain ⟨k2,h2⟩:=dS T hup hκ h2
     refine ⟨max k1 k2,?_⟩
     simp only [hu,if_true]
     exact A6e (oI (T.leR (Nat.le_max_left _ _)) (T.leL (Nat.le_max_left _ _)) (hup _ _ (Nat.le_max_left _ _)) h1) (oI (T.leR (Nat.le_max_right _ _)) (T.leL (Nat.le_max_right _ _)) (hup _ _ (Nat.le_max_right _ _)) h2)
    ·cases h
   ·cases h
  ·rename_i x
   cases x with
   | true=>simp only [cond_true] at h ⊢;exact dS T hup hκ h
   | false=>simp only [cond_false] at h ⊢;exact dS T hup hκ h
  ·cases h
 | .rangeFunc _ _ _ _,_,_,_,_,_,_,h | .scope _,_,_,_,_,_,_,h | .label _,_,_,_,_,_,_,h | .goto _,_,_,_,_,_,_,h | .refuse _,_,_,_,_,_,_,h=>by simp [evB] at h
theorem Ax8 {R R':Run E} {L L':jU} (hR:RLe R R') (hL:LLe L L') {f:FuncId} {ds:List Dyn} {x:(E.cfg f).rt.D} (h:zD E R L f ds = some x):zD E R' L' f ds = some x:=by
 unfold zD at h ⊢
 split at h
 ·split at h
  ·split at h
   ·rename_i hc;rw [if_pos hc];exact oI hR hL (fun _ _ h=>h) h
   ·cases h
  ·cases h
 ·cases h
theorem BB2 (T:Tower E) {f:FuncId} {ds:List Dyn} {x:(E.cfg f).rt.D} (h:zD E T.Rw T.Lw f ds = some x):∃ k,zD E (T.R k) (T.L k) f ds = some x:=by
 unfold zD at h ⊢
 split at h
 ·split at h
  ·split at h
   ·rename_i hc
    simp only [hc,if_true]
    exact dS T (κ:=fun _=>_) (fun _ _ _ _ _ h=>h) (fun _ _ h=>⟨0,h⟩) h
   ·cases h
  ·cases h
 ·cases h
def BM8 (E:Env) (L:jU) (f:FuncId) (b:Code):Out → Option Out
 | ⟨.nm,σ⟩=>L f b (killS (A58 (E.cfg f) b) σ)
 | o=>some o
theorem AZ7 {R:Run E} {L:jU} {f:FuncId} {b:Code} {σ:List SV}:Av3 E R L f b σ = evB E R L f b σ (BM8 E L f b):=by
 unfold Av3
 congr
theorem Ad7 {L L':jU} (hL:LLe L L') {f:FuncId} {b:Code}:∀ o r,BM8 E L f b o = some r → BM8 E L' f b o = some r:=by
 intro o r h
 obtain ⟨e,σ⟩:=o
 cases e with
 | nm=>exact hL _ _ _ _ h
 | ex id=>exact h
 | ret=>exact h
variable (X:(f:FuncId) → Option (List Dyn → Option (E.cfg f).rt.D))
theorem AH1:∀ k,RLe (uW E X k).1 (uW E X (k + 1)).1 ∧ LLe (uW E X k).2 (uW E X (k + 1)).2
 | 0=>⟨fun _ _ _ h=>by simp [uW] at h,fun _ _ _ _ h=>by simp [uW] at h⟩
 | k + 1=>by
  obtain ⟨h1,h2⟩:=AH1 k
  refine ⟨fun f ds x h=>?_,fun f b σ o h=>?_⟩
  ·show AS5 E X (uW E X (k + 1)).1 (uW E X (k + 1)).2 f ds = some x
   have h:AS5 E X (uW E X k).1 (uW E X k).2 f ds = some x:=h
   unfold AS5 at h ⊢
   split at h
   ·exact h
   ·exact Ax8 h1 h2 h
  ·show Av3 E (uW E X (k + 1)).1 (uW E X (k + 1)).2 f b σ = some o
   have h:Av3 E (uW E X k).1 (uW E X k).2 f b σ = some o:=h
   rw [AZ7] at h ⊢
   exact oI h1 h2 (Ad7 h2) h
open Classical in
noncomputable def sup {α:Type} (s:Nat → Option α):Option α:=if h:∃ x k,s k = some x then some h.choose else none
theorem A9L {α:Type} {s:Nat → Option α} (hu:∀ k x,s k = some x → s (k + 1) = some x) {x:α}:sup s = some x ↔ ∃ k,s k = some x:=by
 have up:∀ d k x,s k = some x → s (k + d) = some x:=by
  intro d
  induction d with
  | zero=>intro k x h;exact h
  | succ d ih=>intro k x h;exact hu _ _ (ih k x h)
 have det:∀ k k' x y,s k = some x → s k' = some y → x = y:=fun k k' x y h h'=>by
  have a:=up k' k x h
  have b:=up k k' y h'
  rw [Nat.add_comm] at b
  rw [a] at b;exact Option.some.inj b
 unfold sup
 constructor
 ·intro h
  split at h
  ·rename_i hx
   obtain ⟨k,hk⟩:=hx.choose_spec
   simp only [Option.some.injEq] at h
   exact ⟨k,by rw [← h];exact hk⟩
  ·cases h
 ·rintro ⟨k,hk⟩
  have hx:∃ x k,s k = some x:=⟨x,k,hk⟩
  rw [dif_pos hx]
  obtain ⟨k',hk'⟩:=hx.choose_spec
  rw [det _ _ _ _ hk' hk]
noncomputable def AJ2:Tower E where
 R k:=(uW E X k).1
 L k:=(uW E X k).2
 Rw f ds:=sup fun k=>(uW E X k).1 f ds
 Lw f b σ:=sup fun k=>(uW E X k).2 f b σ
 upR k:=(AH1 X k).1
 upL k:=(AH1 X k).2
 limR f ds _:=A9L fun k x h=>(AH1 X k).1 f ds x h
 limL f b σ _:=A9L fun k x h=>(AH1 X k).2 f b σ x h
noncomputable def run:Run E:=(AJ2 X).Rw
noncomputable def lps:jU:=(AJ2 X).Lw
theorem BU7 (f:FuncId) (ds:List Dyn):run X f ds = AS5 E X (run X) (lps X) f ds:=by
 have T:=AJ2 X
 apply Option.ext
 intro x
 constructor
 ·intro h
  obtain ⟨k,hk⟩:=((AJ2 X).limR f ds x).1 h
  cases k with
  | zero=>cases (show (none:Option _) = some x from hk)
  | succ k=>
   have hk:AS5 E X (uW E X k).1 (uW E X k).2 f ds = some x:=hk
   unfold AS5 at hk ⊢
   split at hk
   ·exact hk
   ·exact Ax8 (fun f ds x h=>((AJ2 X).limR f ds x).2 ⟨k,h⟩) (fun f b σ o h=>((AJ2 X).limL f b σ o).2 ⟨k,h⟩) hk
 ·intro h
  refine ((AJ2 X).limR f ds x).2 ?_
  unfold AS5 at h
  split at h
  ·rename_i h' hX
   refine ⟨1,?_⟩
   show AS5 E X (uW E X 0).1 (uW E X 0).2 f ds = some x
   unfold AS5
   rw [hX];exact h
  ·rename_i hX
   obtain ⟨k,hk⟩:=BB2 (AJ2 X) h
   refine ⟨k + 1,?_⟩
   show AS5 E X (uW E X k).1 (uW E X k).2 f ds = some x
   unfold AS5
   rw [hX];exact hk
theorem Bl5 (f:FuncId) (b:Code) (σ:List SV):lps X f b σ = Av3 E (run X) (lps X) f b σ:=by
 rw [AZ7]
 apply Option.ext
 intro o
 constructor
 ·intro h
  obtain ⟨k,hk⟩:=((AJ2 X).limL f b σ o).1 h
  cases k with
  | zero=>cases (show (none:Option _) = some o from hk)
  | succ k=>
   have hk:Av3 E (uW E X k).1 (uW E X k).2 f b σ = some o:=hk
   rw [AZ7] at hk
   have hL:LLe (uW E X k).2 (lps X):=fun f b σ o h=>((AJ2 X).limL f b σ o).2 ⟨k,h⟩
   exact oI (fun f ds x h=>((AJ2 X).limR f ds x).2 ⟨k,h⟩) hL (Ad7 hL) hk
 ·intro h
  obtain ⟨k,hk⟩:=dS (AJ2 X) (κ:=fun k=>BM8 E ((AJ2 X).L k) f b) (fun j k hjk=>Ad7 ((AJ2 X).leL hjk)) (fun o r ho=>by
   obtain ⟨e,σ'⟩:=o
   cases e with
   | nm=>exact ((AJ2 X).limL _ _ _ _).1 ho
   | ex id=>exact ⟨0,ho⟩
   | ret=>exact ⟨0,ho⟩) h
  refine ((AJ2 X).limL f b σ o).2 ⟨k + 1,?_⟩
  show Av3 E (uW E X k).1 (uW E X k).2 f b σ = some o
  rw [AZ7];exact hk
theorem Bo4 {f:FuncId} (hX:X f = none) (ds:List Dyn):run X f ds = zD E (run X) (lps X) f ds:=by
 rw [BU7];unfold AS5;rw [hX]
theorem BT3 (hX:∀ f h,X f = some h → ∀ ds x,h ds = some x → BW0 E f ds x) (hm:E.P.follows .mixedOrders = true) (hN:Ac2 E.P):Aw6 E (run X):=fun f ds x h=>by
 obtain ⟨k,hk⟩:=((AJ2 X).limR f ds x).1 h
 exact (A2c hX hm hN k).1 f ds x hk
end
end Go.Rf

end
section
namespace Go.Rf
set_option linter.unusedSectionVars false
variable [T:Laid]
def fC:Ty → Bool
 | .int _=>true
 | .bool=>true
 | .str=>true
 | .unit=>true
 | .sl t=>fC t && Nat.blt 0 t.size
 | .arr _ t=>fC t
 | .pair a b=>fC a && fC b
 | _=>false
def Aj9:(t:Ty) → t.D → Prop
 | .int k,x=>(Lit.int k x).wf = true
 | .str,x=>List.length x ≤ maxLen
 | .sl t,x=>List.length x ≤ maxLen ∧ ∀ (i:Nat) (y:t.D),nth x i = some y → Aj9 t y
 | .arr _ t,x=>∀ (i:Nat) (y:t.D),nth x i = some y → Aj9 t y
 | .pair a b,x=>Aj9 a x.1 ∧ Aj9 b x.2
 | _,_=>True
theorem AS0 {α:Type} {Q:Nat → α → Prop}:∀ {n:Nat},(∀ i,i < n → ∃ y,Q i y) → ∃ xs:List α,xs.length = n ∧ ∀ i y,nth xs i = some y → Q i y
 | 0,_=>⟨[],rfl,by simp [nth]⟩
 | n + 1,h=>by
  obtain ⟨xs,h1,h2⟩:=AS0 (n:=n) fun i hi=>h i (by omega)
  obtain ⟨y,hy⟩:=h n (by omega)
  refine ⟨xs ++ [y],by simp [h1],fun i z hz=>?_⟩
  simp only [nth] at hz h2
  rcases Nat.lt_or_ge i n with hi | hi
  ·rw [List.getElem?_append_left (by omega)] at hz;exact h2 i z hz
  ·rw [List.getElem?_append_right (by omega),h1] at hz
   have:i = n:=by
    have:=(List.getElem?_eq_some_iff.1 hz).1
    simp at this;omega
   subst this
   simp at hz
   subst hz;exact hy
theorem Bf1 {α β:Type} {f:α → Option β}:∀ {l:List α} {r:List β},l.mapM f = some r → ∀ (i:Nat) (x:α),l[i]? = some x → ∃ y,f x = some y ∧ r[i]? = some y:=fun {_ _} h i x hx=>by
 have:=mapM_some_get h i x hx
 have hl:=mapM_some_length h
 have hi:=(List.getElem?_eq_some_iff.1 hx).1
 exact ⟨_,this.trans (List.getElem?_eq_getElem (by omega)),List.getElem?_eq_getElem (by omega)⟩
section
variable {P:Program} {w:World} {H:Type} {enc:TypeId × Value → H} {sp:Nat → Bool} {held:Bool}
theorem A2P {a:Addr} {n:Nat} {c:List Value} (hn:0 < n) (h:w.cells? 0 a n = some c):∃ cs e fz,a.spot = none ∧ w.heap[a.block]? = some (.cells cs e fz) ∧ a.off + n ≤ cs.size ∧ c = win cs.toList a.off n:=by
 obtain ⟨b,o,spot⟩:=a
 unfold World.cells? at h
 rw [if_pos (Nat.zero_le _)] at h
 have hlen:=mapM_some_length h
 have hat:∀ i,i < n → ∃ y,w.cell? (Addr.add ⟨b,o,spot⟩ i) = some y ∧ c[i]? = some y:=fun i hi=>Bf1 h i i (by simp [hi])
 have h0:=hat 0 hn
 obtain ⟨y0,h0,_⟩:=h0
 simp only [Addr.add,if_true,World.cell?] at h0
 cases hb:w.heap[b]? with
 | none=>rw [hb] at h0;simp at h0
 | some ob=>
  cases ob with
  | cells cs e fz=>
   rw [hb] at h0
   simp only at h0
   split at h0
   ·cases h0
   ·rename_i hs
    have hs:spot = none:=by cases spot <;> simp_all
    subst hs
    have hc:∀ i,i < n → cs[o + i]? = c[i]?:=fun i hi=>by
     obtain ⟨y,h1,h2⟩:=hat i hi
     rw [jD] at h1
     simp only [World.cell?,hb] at h1
     rw [h2]
     simpa using h1
    have hsz:o + n ≤ cs.size:=by
     have:=hc (n - 1) (by omega)
     have h2:n - 1 < c.length:=by simp at hlen;omega
     rw [List.getElem?_eq_getElem h2] at this
     have:=(Array.getElem?_eq_some_iff.1 this).1
     omega
    refine ⟨cs,e,fz,rfl,rfl,hsz,?_⟩
    apply List.ext_getElem?
    intro i
    simp only [win]
    by_cases hi:i < n
    ·rw [List.getElem?_take_of_lt hi,List.getElem?_drop,← hc i hi]
     simp
    ·rw [List.getElem?_eq_none (by simp at hlen;omega),List.getElem?_eq_none (by simp;omega)]
  | _=>rw [hb] at h0;simp at h0
theorem dY {d:Nat} {t:TypeId} {τ:Ty} (h:tyN P (d + 1) t = some τ):P.cellsOf t = τ.size:=by
 obtain ⟨i,u,h1,_,h3,_⟩:=mR h
 simp [Program.cellsOf,h1,h3]
theorem Az6 {d fuel:Nat} (ih:∀ (t:TypeId) (τ:Ty) (cs:List Value) (data:DataW H × List MemPlace),tyN P (d + 1) t = some τ → fC τ = true → DataW.trod enc P w 0 sp held fuel t cs = some data → ∃ x:τ.D,Rd (fun b=>b < w.heap.size) w τ x cs ∧ Aj9 τ x) {cs:List Value}:
  ∀ {fs:List Field} {off:Nat} {τ:Ty},lF (tyN P (d + 1)) fs off = some τ → fC τ = true →
   (∀ f ∈ fs,∃ y,DataW.trod enc P w 0 sp held fuel f.type ((cs.drop f.offset).take (P.cellsOf f.type)) = some y) → cs.length = off + τ.size → ∃ x:τ.D,Rd (fun b=>b < w.heap.size) w τ x (cs.drop off) ∧ Aj9 τ x
 | [],off,τ,hc,_,_,hl=>by
  simp only [lF,Option.some.injEq] at hc
  subst hc
  simp only [Ty.size] at hl
  refine ⟨(),?_,trivial⟩
  simp only [Rd]
  exact List.drop_eq_nil_iff.2 (by omega)
 | f :: fs,off,τ,hc,hp,hm,hl=>by
  simp only [lF] at hc
  split at hc
  ·rename_i a ha
   split at hc
   ·rename_i ho
    have ho:f.offset = off:=by simpa [Nat.beq_eq] using ho
    obtain ⟨b,hb,rfl⟩:=Option.map_eq_some_iff.1 hc
    simp only [fC,Bool.and_eq_true] at hp
    simp only [Ty.size] at hl
    obtain ⟨y,h1⟩:=hm f (by simp)
    rw [dY ha,ho] at h1
    obtain ⟨x,hx,hfx⟩:=ih f.type a _ y ha hp.1 h1
    obtain ⟨z,hz,hfz⟩:=Az6 ih hb hp.2 (fun f' hf'=>hm f' (by simp [hf'])) (by omega)
    refine ⟨(x,z),?_,hfx,hfz⟩
    simp only [Rd]
    refine ⟨hx,?_⟩
    rw [List.drop_drop];exact hz
   ·cases hc
  ·cases hc
theorem A1d:∀ {d fuel:Nat} {t:TypeId} {τ:Ty} {cs:List Value} {data:DataW H × List MemPlace},tyN P d t = some τ → fC τ = true → DataW.trod enc P w 0 sp held fuel t cs = some data →
  ∃ x:τ.D,Rd (fun b=>b < w.heap.size) w τ x cs ∧ Aj9 τ x
 | 0,_,_,_,_,_,h,_,_=>by simp [tyN] at h
 | d + 1,fuel,t,τ,cs,data,ht,hp,h=>by
  obtain ⟨i,u,hi,hu,hsz,hsh⟩:=mR ht
  have hcell:P.cellsOf t = τ.size:=dY ht
  unfold nX at hsh
  split at hsh
  ·subst hsh
   obtain ⟨n,rfl,_,hw⟩:=DataW.trod_int hu h
   exact ⟨n,by simp only [Rd],hw⟩
  ·subst hsh
   obtain ⟨b,rfl,_⟩:=DataW.trod_bool hu h
   exact ⟨b,by simp only [Rd],trivial⟩
  ·subst hsh
   obtain ⟨s,rfl,_,hs⟩:=DataW.trod_string hu h
   exact ⟨s.data.toList,by simp only [Rd],by simp only [Aj9];rw [Array.length_toList];exact hs⟩
  ·subst hsh;simp [fC] at hp
  ·rename_i e
   obtain ⟨a,ha,rfl⟩:=hsh
   simp only [fC,Bool.and_eq_true] at hp
   have hpos:0 < a.size:=by have:=hp.2;simpa [Nat.blt_eq] using this
   cases d with
   | zero=>simp [tyN] at ha
   | succ d=>
   have hce:=dY ha
   rcases DataW.trod_slice hu h with ⟨rfl,_⟩ | ⟨ad,len,cap,elems,rest,n,rfl,rfl,_,_,hlc,hcm,hel,hat,_,_⟩
   ·exact ⟨([]:List a.D),by simp only [Rd];exact ⟨none,0,rfl,Nat.le_refl _,.inl rfl⟩,by simp [Aj9,nth]⟩
   ·rw [hce] at hat
    have key:∀ i,i < len → ∃ y:a.D,∃ c,w.cells? 0 (ad.add (i * a.size)) a.size = some c ∧ Rd (fun b=>b < w.heap.size) w a y c ∧ Aj9 a y:=fun i hi=>by
     have:=hat i hi
     rw [List.getElem?_eq_getElem (by omega)] at this
     obtain ⟨c,h1,h2⟩:=Option.bind_eq_some_iff.1 this
     obtain ⟨y,hy,hf⟩:=A1d ha hp.1 h2
     exact ⟨y,c,h1,hy,hf⟩
    obtain ⟨xs,hx1,hx2⟩:=AS0 key
    rcases Nat.eq_zero_or_pos len with h0 | h0
    ·refine ⟨xs,?_,?_⟩
     ·simp only [Rd]
      exact ⟨some ad,cap,by rw [hx1],by rw [hx1];exact hlc,.inl (List.length_eq_zero_iff.1 (by omega))⟩
     ·simp only [Aj9]
      exact ⟨by rw [hx1];omega,fun i y hy=>(hx2 i y hy).choose_spec.2.2⟩
    ·obtain ⟨c0,hc0⟩:∃ c,w.cells? 0 (ad.add (0 * a.size)) a.size = some c:=by
      obtain ⟨y,c,h1,_⟩:=key 0 h0;exact ⟨c,h1⟩
     obtain ⟨cs,ee,fz,hsp,hb,_,_⟩:=A2P hpos hc0
     obtain ⟨b,o,spot⟩:=ad
     simp only [Nat.zero_mul,Addr.add,if_true] at hsp hb
     subst hsp
     have hcell:∀ i c,w.cells? 0 (Addr.add ⟨b,o,none⟩ (i * a.size)) a.size = some c → o + i * a.size + a.size ≤ cs.size ∧ c = win cs.toList (o + i * a.size) a.size:=fun i c hc=>by
      rw [jD] at hc
      obtain ⟨cs',ee',fz',_,hb',h3,h4⟩:=A2P hpos hc
      rw [hb] at hb'
      simp only [Option.some.injEq,Obj.cells.injEq] at hb'
      obtain ⟨rfl,_,_⟩:=hb'
      exact ⟨h3,h4⟩
     refine ⟨xs,?_,?_⟩
     ·simp only [Rd]
      refine ⟨some ⟨b,o,none⟩,cap,by rw [hx1],by rw [hx1];exact hlc,.inr ⟨b,o,cs,rfl,(Array.getElem?_eq_some_iff.1 hb).1,⟨ee,fz,hb⟩,?_,fun i y hy=>?_⟩⟩
      ·obtain ⟨y,c,h1,_⟩:=key (len - 1) (by omega)
       have:=(hcell _ _ h1).1
       rw [hx1]
       have e:len * a.size = (len - 1) * a.size + a.size:=by
        rw [← Nat.succ_mul];congr 1;omega
       omega
      ·obtain ⟨c,h1,h2,_⟩:=hx2 i y hy
       rw [← (hcell i c h1).2];exact h2
     ·simp only [Aj9]
      exact ⟨by rw [hx1];omega,fun i y hy=>(hx2 i y hy).choose_spec.2.2⟩
  ·obtain ⟨a,_,rfl⟩:=hsh;simp [fC] at hp
  ·rename_i n e
   obtain ⟨a,ha,rfl⟩:=hsh
   simp only [fC] at hp
   cases d with
   | zero=>simp [tyN] at ha
   | succ d=>
   have hce:=dY ha
   obtain ⟨xs,m,rfl,_,hl,hxl,hat⟩:=DataW.trod_array hu h
   rw [hce] at hat
   rw [hcell] at hl
   have key:∀ i,i < n → ∃ y:a.D,Rd (fun b=>b < w.heap.size) w a y (win cs (i * a.size) a.size) ∧ Aj9 a y:=fun i hi=>by
    have:=hat i hi
    rw [List.getElem?_eq_getElem (by omega)] at this
    exact A1d ha hp this
   obtain ⟨ys,hy1,hy2⟩:=AS0 key
   refine ⟨ys,?_,?_⟩
   ·simp only [Rd]
    exact ⟨hy1,hl,fun i y hy=>(hy2 i y hy).1⟩
   ·simp only [Aj9]
    exact fun i y hy=>(hy2 i y hy).2
  ·rename_i fs
   cases d with
   | zero=>
    cases hfs:fs.toList with
    | nil=>
     rw [hfs] at hsh
     simp only [lF,Option.some.injEq] at hsh
     subst hsh
     obtain ⟨xs,n,rfl,_,hl,_,_⟩:=DataW.trod_struct hu h
     rw [hcell] at hl
     exact ⟨(),by simp only [Rd];exact List.length_eq_zero_iff.1 hl,trivial⟩
    | cons f fs'=>
     rw [hfs] at hsh
     simp [lF,tyN] at hsh
   | succ d=>
   obtain ⟨xs,n,rfl,_,hl,hxl,hat⟩:=DataW.trod_struct hu h
   rw [hcell] at hl
   have:=Az6 (cs:=cs) (fun t τ cs data h1 h2 h3=>A1d h1 h2 h3) hsh hp (fun f hf=>by
    obtain ⟨i,hi,e⟩:=List.mem_iff_getElem.1 hf
    have h1:fs[i]? = some f:=by
     rw [← Array.getElem?_toList,List.getElem?_eq_getElem hi,e]
    have:=hat i f h1
    rw [List.getElem?_eq_getElem (by simp at hi;omega)] at this
    exact ⟨_,this⟩) (by omega)
   simpa using this
  ·exact hsh.elim
end
end Go.Rf

end
section
namespace Go.Rf
set_option linter.unusedSectionVars false
variable [T:Laid]
open Go.ChangeShapes Go.WideShapes Go.ChangeAt Go.RowKit
def A5L:List Dyn → Prop
 | []=>True
 | d :: ds=>Aj9 d.t d.x ∧ A5L ds
section
variable {P:Program} {w:World} {H:Type} {enc:TypeId × Value → H} {sp:Nat → Bool} {held:Bool}
theorem A4w {d:Nat} {t:TypeId} {τ:Ty} {v:Value} (ht:tyN P (d + 1) t = some τ) (hp:fC τ = true) (hv:Value.okWide P w .any 0 t v ∨ ∃ b,Value.okWide P w .any b t v):v = yA τ v.cells.toList:=by
 have hv:∃ b,Value.okWide P w .any b t v:=hv.elim (fun h=>⟨0,h⟩) id
 obtain ⟨b,hv⟩:=hv
 obtain ⟨i,u,hi,hu,hsz,hsh⟩:=mR ht
 unfold nX at hsh
 split at hsh
 ·subst hsh;obtain ⟨n,rfl⟩:=okWide_int hu hv;rfl
 ·subst hsh;obtain ⟨n,rfl⟩:=okWide_bool hu hv;rfl
 ·subst hsh;obtain ⟨n,rfl⟩:=okWide_string hu hv;rfl
 ·subst hsh;simp [fC] at hp
 ·obtain ⟨a,_,rfl⟩:=hsh;obtain ⟨_,_,_,rfl⟩:=okWide_slice hu hv;rfl
 ·obtain ⟨a,_,rfl⟩:=hsh;simp [fC] at hp
 ·obtain ⟨a,_,rfl⟩:=hsh
  unfold Value.okWide at hv
  rw [hu] at hv
  obtain ⟨cs,rfl,_⟩:=hv
  simp [yA,Ty.agg,Value.cells]
 ·obtain ⟨cs,rfl,_⟩:=okWide_struct hu hv
  rcases oS hsh with rfl | ⟨a,b,rfl⟩ <;> simp [yA,Ty.agg,Value.cells]
 ·exact hsh.elim
theorem A3N:∀ {ts:List TypeId} {vs:List Value} {ds:List (DataW H)} {ps:List MemPlace} {tys:List Ty} {b:Nat},DataW.TrodAll enc P w 0 sp held ts vs ds ps → ts.map (tyN P 8) = tys.map some → tys.all fC = true →
  (∀ (j:Nat) (t:TypeId) (v:Value),ts[j]? = some t → vs[j]? = some v → Value.okWide P w .any b t v) →
  ∃ dy cs,AE6 (fun b=>b < w.heap.size) w dy cs ∧ yE dy cs = vs ∧ dy.map Dyn.t = tys ∧ A5L dy ∧ ds.length = ts.length
 | [],[],[],ps,tys,b,_,ht,_,_=>by
  cases tys with
  | nil=>exact ⟨[],[],by simp [AE6],by simp [yE],rfl,trivial,rfl⟩
  | cons _ _=>simp at ht
 | t :: ts,v :: vs,d :: ds,ps,tys,b,h,ht,hp,hv=>by
  cases tys with
  | nil=>simp at ht
  | cons τ tys=>
   simp only [List.map_cons,List.cons.injEq] at ht
   simp only [List.all_cons,Bool.and_eq_true] at hp
   obtain ⟨p,q,⟨fuel,h1⟩,h2,_⟩:=h
   obtain ⟨x,hx,hf⟩:=A1d ht.1 hp.1 h1
   obtain ⟨dy,cs,q1,q2,q3,q4,q5⟩:=A3N h2 ht.2 hp.2 (fun j t' v' h1 h2=>hv (j + 1) t' v' (by simpa using h1) (by simpa using h2))
   refine ⟨⟨τ,x⟩ :: dy,v.cells.toList :: cs,⟨hx,q1⟩,?_,by simp [q3],⟨hf,q4⟩,by simp [q5]⟩
   simp only [yE,q2]
   rw [← A4w ht.1 hp.1 (.inr ⟨b,hv 0 t v rfl rfl⟩)]
 | [],_ :: _,_,_,_,_,h,_,_,_=>by simp [DataW.TrodAll] at h
 | [],[],_ :: _,_,_,_,h,_,_,_=>by simp [DataW.TrodAll] at h
 | _ :: _,[],_,_,_,_,h,_,_,_=>by simp [DataW.TrodAll] at h
 | _ :: _,_ :: _,[],_,_,_,h,_,_,_=>by simp [DataW.TrodAll] at h
theorem AU3 (hl:laidOutB P = true) {W W':World} (hb:Below W.heap.size W W'):∀ {ts:List TypeId} {vs:List Value} {ds:List (DataW H)} {ps:List MemPlace},DataW.TrodAll enc P W 0 (fun _=>true) true ts vs ds ps →
  (∀ t ∈ ts,P.readableRec t = true ∧ t < P.types.size) → DataW.TrodAll enc P W' 0 (fun b=>decide (b < W.heap.size)) true ts vs ds ps
 | [],[],[],ps,h,_=>h
 | t :: ts,v :: vs,d :: ds,ps,h,hr=>by
  obtain ⟨p,q,h1,h2,rfl⟩:=h
  refine ⟨p,q,?_,AU3 hl hb h2 fun t' h'=>hr t' (by simp [h']),rfl⟩
  have ⟨fuel,h1'⟩:=h1
  exact Below.trod hl (hr t (by simp)).1 (hr t (by simp)).2 h1 hb (DataW.trod_lt fuel _ _ _ h1')
 | [],_ :: _,_,_,h,_=>by simp [DataW.TrodAll] at h
 | [],[],_ :: _,_,h,_=>by simp [DataW.TrodAll] at h
 | _ :: _,[],_,_,h,_=>by simp [DataW.TrodAll] at h
 | _ :: _,_ :: _,[],_,h,_=>by simp [DataW.TrodAll] at h
end
def A88:(t:Ty) → t.D → Bool
 | .pair .bool _,x=>x.1
 | _,_=>false
theorem BR8:∀ {tys:List Ty} {dy:List Dyn},dy.map Dyn.t = tys → Av6 (tys.map .ro) dy = true
 | [],[],_=>rfl
 | t :: tys,d :: dy,h=>by
  simp only [List.map_cons,List.cons.injEq] at h
  simp only [List.map_cons,Av6,h.1,decide_true,Bool.true_and]
  exact BR8 h.2
 | [],_ :: _,h=>by simp at h
 | _ :: _,[],h=>by simp at h
theorem BR3 {E:Env} {R:Run E} (hR:Aw6 E R) {f:FuncId} {fn:Func} {W:World} {tys:List Ty} {dy:List Dyn} {cs:List (List Value)} (hfn:E.P.funcs[f]? = some fn) (hb:fn.body.isNone = false) {keep:List Nat} {mv:List (Nat × Nat)}
  (hcfg:E.cfg f = ⟨tys.map .ro,1,.pair .bool .unit,.sh,keep,mv⟩) (hdy:dy.map Dyn.t = tys) (hrd:AE6 (fun b=>b < W.heap.size) W dy cs) {x:(E.cfg f).rt.D} (hx:R f dy = some x) (ht:A88 _ x = true) (htab:∀ t ∈ T.tabs,Blk W t.1 t.2):
  Calls E.P f (yE dy cs).toArray W fun e W'=>e = .returned (.bool true) ∧ Below W.heap.size W W':=by
 have h:=hR f dy x hx W (fun b=>b < W.heap.size) (fun _=>none) cs ⟨fun _ _ _ h=>by simp at h,fun _ _ h=>by simp at h,fun _ _ h=>by simp at h,fun _ h=>h,fun t ht=>⟨(htab t ht).lt,htab t ht⟩⟩ (BE1 (by rw [hcfg];exact BR8 hdy) hrd)
 have post:∀ v W',Ret (E.cfg f) x cs W (fun b=>b < W.heap.size) (fun _=>none) v W' → v = .bool true ∧ Below W.heap.size W W':=by
  rintro v W' ⟨S',β',crs,h1,h2,h3,h4,h5⟩
  refine ⟨?_,⟨h2.out.os,h2.out.tape,h2.out.output,h2.size,fun k hk=>h2.old k hk (fun _=>by simp)⟩⟩
  have key:∀ (c:FCfg) (x:c.rt.D),c = ⟨tys.map .ro,1,.pair .bool .unit,.sh,keep,mv⟩ → A88 _ x = true → oX S' β' W' c.nres 0 c.rt c.rf x crs → v = Ag3 (lL c.nres c.rt crs) → v = .bool true:=by
   intro c x hc ht h3 h4
   subst hc
   match crs,h3 with
   | [c],h3=>
    simp only [oX] at h3
    have:=h3.1
    simp only [Fl.l] at this
    rw [yQ] at this
    simp only [Rd] at this
    subst this
    have ht:x.1 = true:=ht
    rw [h4]
    show Value.bool x.1 = _
    rw [ht]
   | [],h3=>simp [oX] at h3
   | _ :: _ :: _,h3=>simp [oX] at h3
  exact key _ x hcfg ht h3 h4
 rcases h with ⟨fn',_,_,_,h⟩ | ⟨v,w',hrun,hret⟩
 ·refine h.mono fun e W' he=>?_
  cases e with
  | returned v=>obtain ⟨rfl,hb⟩:=post v W' he;exact ⟨rfl,hb⟩
  | panicked _=>exact he.elim
  | outgrown=>exact he.elim
 ·exfalso
  have hb':fn.body ≠ none:=fun e=>by rw [e] at hb;simp at hb
  by_cases hnm:fn.name = "runtime.NumGoroutine"
  ·have hr:(callFunc f (yE dy cs).toArray).run E.P W = .ok .numGoroutine W:=by
    simp only [callFunc,go_sem]
    simp [hfn,hnm]
   rw [hr] at hrun;simp at hrun
  ·have hr:(callFunc f (yE dy cs).toArray).run E.P W = .ok (.enter f (yE dy cs).toArray) W:=by
    simp only [callFunc,go_sem]
    simp [hfn,hnm,hb']
   rw [hr] at hrun;simp at hrun
theorem BZ2 {C:Checked} {cfg:FuncId → FCfg} {R:Run ⟨C.prog,cfg⟩} (hR:Aw6 ⟨C.prog,cfg⟩ R) {f:FuncId} {fn:Func} {s:ChangeSpec} {tys:List Ty} {keep:List Nat} {mv:List (Nat × Nat)} {tb:TypeId} {n:Nat}
  (hcfg:cfg f = ⟨tys.map .ro,1,.pair .bool .unit,.sh,keep,mv⟩) (hfn:C.prog.funcs[f]? = some fn) (hb:fn.body.isNone = false) (hty:fn.params.toList.map (tyN C.prog 8) = tys.map some) (hp:tys.all fC = true)
  (hvars:s.vars = []) (hs:∀ (H:Type) (ds:List (DataW H)),ds.length = n → s.fn H ds = { results:=[.lit (.bool true)],args:=ds }) (hn:fn.params.toList.length = n) (hrt:fn.resultTypes = #[tb]) (hut:C.prog.underlying tb = some .bool)
  (hl:laidOutB C.prog = true) (hr:∀ t ∈ fn.params.toList,C.prog.readableRec t = true ∧ t < C.prog.types.size)
  (hx:∀ dy:List Dyn,dy.map Dyn.t = tys → A5L dy → ∃ x,R f dy = some x ∧ A88 _ x = true)
  {H:Type} (enc:TypeId × Value → H) (W:World) (htab:∀ t ∈ T.tabs,Blk W t.1 t.2) (base:Nat) (args:Array Value) (ds gs:List (DataW H)) (before:List MemPlace)
  (hval:∀ (j:Nat) t v,fn.params[j]? = some t → args[j]? = some v → Value.okWide C.prog W .any base t v)
  (hW:DataW.Whole enc C.prog fn.params.toList s.vars false W args.toList ds gs before):
  Calls C.prog f args W fun e W'=>∃ v,e = .returned v ∧ s.post enc C.prog fn false true false false W args v W':=by
 have hW':=hW
 obtain ⟨p,q,hA,hV,rfl,hfz,hnd⟩:=hW
 rw [hvars] at hV
 obtain ⟨rfl,rfl⟩:=trodVars_none hV
 obtain ⟨dy,cs,h1,h2,h3,h4,h5⟩:=A3N (b:=base) hA hty hp (fun j t v hj hv=>hval j t v (by simpa using hj) (by simpa using hv))
 obtain ⟨x,hx1,hx2⟩:=hx dy h3 h4
 have hc:=BR3 hR hfn hb hcfg h3 h1 hx1 hx2 htab
 have hargs:(yE dy cs).toArray = args:=by rw [h2]
 rw [hargs] at hc
 refine hc.mono fun e W' ⟨he,bel⟩=>?_
 refine ⟨_,he,ds,[],_,[],p,[],hW',?_,?_,?_,bel.frame _,fun h=>by cases h⟩
 ·rw [hs H (ds ++ []) (by simp [h5,hn]),hrt]
  exact trodAll_mk1 (shut_bool hut _)
 ·rw [hs H (ds ++ []) (by simp [h5,hn])]
  simp only [List.append_nil]
  exact AU3 hl bel hA hr
 ·rw [hvars,hs H (ds ++ []) (by simp [h5,hn])]
  rfl
end Go.Rf

end
section
namespace Go.Rf
set_option linter.unusedSectionVars false
variable [T:Laid]
def BE5:List (Nat × FCfg) → FuncId → FCfg
 | [],_=>⟨[],0,.unit,.sh,[],[]⟩
 | (n,c) :: l,f=>cond (Nat.beq n f) c (BE5 l f)
def Bn7 (P:Program):Bool:=P.funcs.toList.all fun fn=>!(fn.name == "runtime.NumGoroutine")
theorem A0V {P:Program} (h:Bn7 P = true):Ac2 P:=fun f fn hf=>by
 have:=List.all_eq_true.1 h fn (by
  obtain ⟨hi,e⟩:=Array.getElem?_eq_some_iff.1 hf
  rw [← e];exact Array.mem_toList_iff.2 (Array.getElem_mem hi))
 simpa using this
def uC (E:Env) (R:Run E) (v:FnVal) (ds:List Dyn):Option Bool:=A9j E R v ds .bool
def jX:Code → List Nat → Bool
 | .loop (.loop _),[]=>false
 | .loop _,[]=>true
 | .seq a _,0 :: p=>jX a p
 | .seq _ b,1 :: p=>jX b p
 | .cond _ a _,0 :: p=>jX a p
 | .cond _ _ b,1 :: p=>jX b p
 | .block _ b,0 :: p=>jX b p
 | .loop b,0 :: p=>jX b p
 | _,_=>false
section
variable {E:Env} {X:(f:FuncId) → Option (List Dyn → Option (E.cfg f).rt.D)} {ρ:Type} {f:FuncId}
theorem AX1 {R:Run E} {ρ':Type} {mv:List Nat} {all:List Oper} {draw:Bool} {κ1:List Slot → Option ρ} {κ2:ρ → Option ρ'}:∀ {os:List Oper} {i:Nat} {l:List Slot} {acc:List Rec},
  eI E R mv all draw os i l acc (fun l=>(κ1 l).bind κ2) = (eI E R mv all draw os i l acc κ1).bind κ2
 | [],i,l,acc=>by
  unfold eI
  split
  ·split <;> rfl
  ·rfl
 | o :: os,i,l,acc=>by
  have hgo:∀ {gs:List Nat} {l:List Slot},opK E R (mv.any (Nat.beq i ·)) (qY l (A1P o l)) o (fun us=>eI E R mv all draw os (i + 1) (iS l us) (acc ++ [(AW5 (mv.any (Nat.beq i ·)) gs l o us:Rec)]) (fun l=>(κ1 l).bind κ2)) =
    (opK E R (mv.any (Nat.beq i ·)) (qY l (A1P o l)) o (fun us=>eI E R mv all draw os (i + 1) (iS l us) (acc ++ [(AW5 (mv.any (Nat.beq i ·)) gs l o us:Rec)]) κ1)).bind κ2:=fun {gs l}=>by
   have e1:=AA0 (E:=E) (R:=R) (mv:=mv.any (Nat.beq i ·)) (g:=qY l (A1P o l)) (o:=o) (κ:=fun us=>eI E R mv all draw os (i + 1) (iS l us) (acc ++ [(AW5 (mv.any (Nat.beq i ·)) gs l o us:Rec)]) κ1)
   rw [AA0,e1,Option.bind_assoc]
   congr
   funext us
   exact AX1
  have hskip:∀ {gs:List Nat} {l:List Slot},(match o.dst with
    | some d=>eI E R mv all draw os (i + 1) (upL l (.put d .und)) (acc ++ [(⟨gs,[d],[],[d]⟩:Rec)]) (fun l=>(κ1 l).bind κ2)
    | none=>eI E R mv all draw os (i + 1) l (acc ++ [(⟨gs,[],[],[]⟩:Rec)]) (fun l=>(κ1 l).bind κ2)) =
    (match o.dst with
    | some d=>eI E R mv all draw os (i + 1) (upL l (.put d .und)) (acc ++ [(⟨gs,[d],[],[d]⟩:Rec)]) κ1
    | none=>eI E R mv all draw os (i + 1) l (acc ++ [(⟨gs,[],[],[]⟩:Rec)]) κ1).bind κ2:=fun {gs l}=>by
   cases hd:o.dst with
   | some d=>exact AX1
   | none=>exact AX1
  unfold eI
  simp only
  split
  ·exact hgo
  ·split
   ·rfl
   ·split
    ·rename_i t hv
     cases t with
     | true=>
      simp only [cond_true]
      split
      ·exact hgo
      ·exact hskip
     | false=>
      simp only [cond_false]
      split
      ·exact hskip
      ·exact hgo
    ·exact hskip
    ·rfl
theorem cQ {R:Run E} {L:jU} {ρ':Type} {κ2:ρ → Option ρ'} (hu:A7x (E.cfg f).keep = false):∀ {c:Code} {σ:List SV} {κ1:Out → Option ρ},evB E R L f c σ (fun o=>(κ1 o).bind κ2) = (evB E R L f c σ κ1).bind κ2
 | .skip,_,_=>rfl
 | .exit _,_,_=>rfl
 | .ret,_,_=>rfl
 | .region id ops draw,σ,κ1=>by
  simp only [evB,Ar0]
  exact AX1 (κ1:=fun l=>κ1 ⟨.nm,AR8 (E.cfg f).keep l l 0⟩)
 | .seq a b,σ,κ1=>by
  simp only [evB]
  rw [← cQ hu (c:=a)]
  congr
  funext o
  obtain ⟨e,σ'⟩:=o
  cases e with
  | nm=>exact cQ hu
  | ex id=>rfl
  | ret=>rfl
 | .block id b,σ,κ1=>by
  simp only [evB]
  rw [← cQ hu (c:=b)]
  congr
  funext o
  obtain ⟨e,σ'⟩:=o
  cases e with
  | ex j=>simp only [AU5];split <;> rfl
  | nm=>rfl
  | ret=>rfl
 | .loop b,σ,κ1=>by
  simp only [evB,A1N]
  rw [Option.bind_assoc]
 | .cond c a b,σ,κ1=>by
  simp only [evB]
  split
  ·split
   ·rename_i x hx
    cases x with
    | true=>simp only [cond_true];exact cQ hu
    | false=>simp only [cond_false];exact cQ hu
   ·simp only [hu,Bool.false_eq_true,if_false];rfl
   ·rfl
  ·rename_i x
   cases x with
   | true=>simp only [cond_true];exact cQ hu
   | false=>simp only [cond_false];exact cQ hu
  ·rfl
 | .rangeFunc _ _ _ _,_,_ | .scope _,_,_ | .label _,_,_ | .goto _,_,_ | .refuse _,_,_=>rfl
theorem A5g (hu:A7x (E.cfg f).keep = false) {b:Code} {σ:List SV} {κ:Out → Option ρ}:A1N (lps X) f b σ κ = evB E (run X) (lps X) f b σ (Bl6 E (lps X) f b κ):=by
 unfold A1N
 rw [Bl5,AZ7,← cQ hu]
 congr
 funext o
 obtain ⟨e,σ'⟩:=o
 cases e <;> rfl
theorem mE (hu:A7x (E.cfg f).keep = false):∀ {c:Code} {p:List Nat} {σ:List SV} {κ:Out → Option ρ},jX c p = true →
  A5k E (run X) (lps X) f (sub c p) σ (fR E (run X) (lps X) f c p κ) = A5k E (run X) (lps X) f (sub c (p ++ [0])) σ (fR E (run X) (lps X) f c (p ++ [0]) κ)
 | .loop b,[],σ,κ,h=>by
  have e:∀ κ':Out → Option ρ,A5k E (run X) (lps X) f b σ κ' = evB E (run X) (lps X) f b σ κ':=fun κ'=>by
   cases b <;> first | rfl | simp [jX] at h
  simp only [sub,List.nil_append,fR]
  rw [e]
  exact A5g hu
 | .seq a _,0 :: p,σ,κ,h=>by simp only [jX] at h;simp only [sub,fR,List.cons_append];exact mE hu h
 | .seq _ b,1 :: p,σ,κ,h=>by simp only [jX] at h;simp only [sub,fR,List.cons_append];exact mE hu h
 | .cond _ a _,0 :: p,σ,κ,h=>by simp only [jX] at h;simp only [sub,fR,List.cons_append];exact mE hu h
 | .cond _ _ b,1 :: p,σ,κ,h=>by simp only [jX] at h;simp only [sub,fR,List.cons_append];exact mE hu h
 | .block _ b,0 :: p,σ,κ,h=>by simp only [jX] at h;simp only [sub,fR,List.cons_append];exact mE hu h
 | .loop b,0 :: p,σ,κ,h=>by simp only [jX] at h;simp only [sub,fR,List.cons_append];exact mE hu h
 | .skip,_,_,_,h | .region _ _ _,_,_,_,h | .exit _,_,_,_,h | .ret,_,_,_,h | .rangeFunc _ _ _ _,_,_,_,h | .scope _,_,_,_,h | .label _,_,_,_,h | .goto _,_,_,_,h | .refuse _,_,_,_,h=>by simp [jX] at h
 | .seq _ _,[],_,_,h | .cond _ _ _,[],_,_,h | .block _ _,[],_,_,h=>by simp [jX] at h
 | .seq _ _,(_ + 2) :: _,_,_,h | .cond _ _ _,(_ + 2) :: _,_,_,h | .block _ _,(_ + 1) :: _,_,_,h | .loop _,(_ + 1) :: _,_,_,h=>by simp [jX] at h
theorem BF5 {fn:Func} {p:List Nat} {σ:List SV} (h:(jX (A5y fn) p && !A7x (E.cfg f).keep) = true):zT E (run X) (lps X) f fn p σ = zT E (run X) (lps X) f fn (p ++ [0]) σ:=by
 rw [Bool.and_eq_true,Bool.not_eq_true'] at h
 exact mE h.2 h.1
end
end Go.Rf

end
section
namespace Go.Rf
set_option linter.unusedSectionVars false
variable [T:Laid]
theorem nn (i:Nat):zA (i:Int) = true:=by simp [zA]
theorem tn (i:Nat):Int.toNat (i:Int) = i:=Int.toNat_natCast i
theorem zX {i n:Nat} (h:i < n):Nat.blt i n = true:=by simpa [Nat.blt_eq] using h
theorem bL {i n:Nat} (h:i < n):decide ((i:Int) < (n:Int)) = true:=by simpa using h
theorem aC {i n:Nat} (h:n ≤ i):decide ((i:Int) < (n:Int)) = false:=by simpa using h
theorem zI {n:Int} (h1:-9223372036854775808 ≤ n) (h2:n ≤ 9223372036854775807):IntKind.wrap .i64 n = n:=by
 have e:∀ m:Int,(if (IntKind.i64.signed && decide (m ≥ (2 ^ (IntKind.i64.bits - 1):Int))) = true then m - (2 ^ IntKind.i64.bits:Int) else m) = if (9223372036854775808:Int) ≤ m then m - 18446744073709551616 else m:=fun m=>by
  by_cases h:(9223372036854775808:Int) ≤ m
  ·rw [if_pos h,if_pos]
   ·rfl
   ·show (true && decide (m ≥ (9223372036854775808:Int))) = true
    simpa using h
  ·rw [if_neg h,if_neg]
   show ¬ (true && decide (m ≥ (9223372036854775808:Int))) = true
   simpa using h
 unfold IntKind.wrap
 refine (e _).trans ?_
 show (if (9223372036854775808:Int) ≤ n % 18446744073709551616 then n % 18446744073709551616 - 18446744073709551616 else n % 18446744073709551616) = n
 split <;> omega
theorem zB {i:Nat} (h:i < 9223372036854775807):IntKind.wrap .i64 ((i:Int) + 1) = ((i + 1:Nat):Int):=by
 rw [zI (by omega) (by omega)];omega
theorem wY {a b:Int}:eqI a b = decide (a = b):=rfl
theorem fI {a b:List UInt8}:eqS a b = decide (a = b):=rfl
theorem A6K (a:Int):leI a a = true:=by simp [leI]
theorem vU {n:Nat} (h:n ≤ 1099511627776):yT n = true:=by simpa [yT,Nat.ble_eq] using h
theorem sL {α:Type} {l:List α} {i:Nat} {d:α} (h:i < l.length):l.getD i d ∈ l:=by
 rw [List.getD_eq_getElem?_getD,List.getElem?_eq_getElem h];exact List.getElem_mem h
theorem xZ {α:Type} {l:List α} {i:Nat} {d:α} (h:i < l.length):l.drop i = l.getD i d :: l.drop (i + 1):=by
 rw [List.getD_eq_getElem?_getD,List.getElem?_eq_getElem h,List.drop_eq_getElem_cons h];rfl
theorem A6l {t:Ty} {x:List t.D} (h:Aj9 (.sl t) x):∀ s ∈ x,Aj9 t s:=fun s hs=>by
 obtain ⟨i,hi,e⟩:=List.mem_iff_getElem.1 hs
 refine h.2 i s ?_
 show x[i]? = some s
 rw [List.getElem?_eq_getElem hi,e]
theorem Bd4 {α:Type} {a b:List α} {i:Nat} (hl:b.length = a.length) (h:∀ j,j < i → b[j]? = a[j]?) (hi:a.length ≤ i):b = a:=by
 apply List.ext_getElem?
 intro j
 rcases Nat.lt_or_ge j i with hj | hj
 ·exact h j hj
 ·rw [List.getElem?_eq_none (by omega),List.getElem?_eq_none (by omega)]
theorem A3H {α:Type} {a b:List α} {i:Nat} {d:α} (hl:b.length = a.length) (hi:i < a.length) (h:∀ j,j < i → b[j]? = a[j]?):∀ j,j < i + 1 → (b.set i (a.getD i d))[j]? = a[j]?:=fun j hj=>by
 rw [List.getElem?_set]
 by_cases e:i = j
 ·subst e
  rw [if_pos rfl,if_pos (by omega),List.getD_eq_getElem?_getD,List.getElem?_eq_getElem hi];rfl
 ·rw [if_neg e];exact h j (by omega)
end Go.Rf

end
section
namespace Go.Rf
set_option linter.unusedSectionVars false
variable [T:Laid]
def cnt:(t:Ty) → t.D → Nat
 | .str,x=>List.length x
 | .sl t,x=>List.length x + (List.map (cnt t) x).sum
 | .pair a b,x=>cnt a x.1 + cnt b x.2
 | _,_=>0
def szF (c:Nat) (l:Int):Int:=if (c:Int) ≤ l then l - c else -1
theorem Au0 {c:Nat} {l:Int} (h:(c:Int) ≤ l):szF c l = l - c:=if_pos h
theorem AE5 {c:Nat} {l:Int} (h:l < (c:Int)):szF c l = -1:=if_neg (by omega)
theorem BE8 {α:Type} (F:Int → Int → Option (Int × Unit)) (v:List α) (d:α) (f:α → Nat)
  (stop:∀ l,F l (v.length:Nat) = some (l,()))
  (step:∀ (l:Int) (i:Nat),i < v.length → 0 ≤ l → l ≤ 1048576 → F l i = if (f (v.getD i d):Int) ≤ l then F (l - f (v.getD i d)) ((i + 1:Nat):Int) else some (-1,())):
  ∀ (n i:Nat) (l:Int),v.length - i = n → i ≤ v.length → 0 ≤ l → l ≤ 1048576 → F l i = some (szF (((v.drop i).map f).sum) l,())
 | 0,i,l,hn,hi,h0,h1=>by
  have:i = v.length:=by omega
  subst this
  rw [stop,List.drop_eq_nil_of_le (Nat.le_refl _)]
  simp [szF,h0]
 | n + 1,i,l,hn,hi,h0,h1=>by
  have hlt:i < v.length:=by omega
  rw [step l i hlt h0 h1,xZ (d:=d) hlt,List.map_cons,List.sum_cons]
  generalize f (v.getD i d) = c
  by_cases h:(c:Int) ≤ l
  ·rw [if_pos h,BE8 F v d f stop step n (i + 1) (l - c) (by omega) (by omega) (by omega) (by omega)]
   generalize ((v.drop (i + 1)).map f).sum = e
   unfold szF
   by_cases h2:(e:Int) ≤ l - c
   ·rw [if_pos h2,if_pos (by omega)];congr 2;omega
   ·rw [if_neg h2,if_neg (by omega)]
  ·rw [if_neg h,AE5 (by omega)]
theorem A8b {α:Type} (F:List α → Int → Option (List α × Unit)) (v:List α) (d:α)
  (stop:∀ w,w.length = v.length → F w (v.length:Nat) = some (w,()))
  (step:∀ (w:List α) (i:Nat),i < v.length → w.length = v.length → F w i = F (w.set i (v.getD i d)) ((i + 1:Nat):Int)):
  ∀ (n i:Nat) (w:List α),v.length - i = n → i ≤ v.length → w.length = v.length → (∀ j,j < i → w[j]? = v[j]?) → F w i = some (v,())
 | 0,i,w,hn,hi,hl,hw=>by
  have:i = v.length:=by omega
  subst this
  rw [stop w hl,Bd4 hl hw (Nat.le_refl _)]
 | n + 1,i,w,hn,hi,hl,hw=>by
  have hlt:i < v.length:=by omega
  rw [step w i hlt hl]
  exact A8b F v d stop step n (i + 1) _ (by omega) (by omega) (by simpa using hl) (A3H hl hlt hw)
theorem A2k {α:Type} (F:Int → Option (Bool × Unit)) (v:List α)
  (stop:F (v.length:Nat) = some (true,()))
  (step:∀ (i:Nat),i < v.length → F i = F ((i + 1:Nat):Int)):
  ∀ (n i:Nat),v.length - i = n → i ≤ v.length → F i = some (true,())
 | 0,i,hn,hi=>by
  have:i = v.length:=by omega
  subst this
  exact stop
 | n + 1,i,hn,hi=>by
  rw [step i (by omega)]
  exact A2k F v stop step n (i + 1) (by omega) (by omega)
def mapM {α:Type} (f:α → Nat → α × Nat):List α → Nat → List α × Nat
 | [],k=>([],k)
 | x :: xs,k=>((f x k).1 :: (mapM f xs (f x k).2).1,(mapM f xs (f x k).2).2)
def mk_ (mt:Nat → List UInt8):Bool → (t:Ty) → t.D → Nat → t.D × Nat
 | true,.int _,_,k=>((k:Int),k + 1)
 | true,.str,_,k=>(mt k,k + 1)
 | _,.sl t,x,k=>mapM (mk_ mt true t) x k
 | c,.pair a b,x,k=>(((mk_ mt c a x.1 k).1,(mk_ mt c b x.2 (mk_ mt c a x.1 k).2).1),(mk_ mt c b x.2 (mk_ mt c a x.1 k).2).2)
 | _,_,x,k=>(x,k)
def nmk:Bool → (t:Ty) → t.D → Nat
 | true,.int _,_=>1
 | true,.str,_=>1
 | _,.sl t,x=>(List.map (nmk true t) x).sum
 | c,.pair a b,x=>nmk c a x.1 + nmk c b x.2
 | _,_,_=>0
theorem A1o {α:Type} {f:α → Nat → α × Nat} {m:α → Nat} (h:∀ x k,(f x k).2 = k + m x):∀ (l:List α) (k:Nat),(mapM f l k).2 = k + (l.map m).sum
 | [],k=>rfl
 | x :: xs,k=>by
  show (mapM f xs (f x k).2).2 = _
  rw [A1o h xs,h,List.map_cons,List.sum_cons];omega
theorem cC (mt:Nat → List UInt8):∀ (c:Bool) (t:Ty) (x:t.D) (k:Nat),(mk_ mt c t x k).2 = k + nmk c t x
 | true,.int _,_,_=>rfl
 | true,.str,_,_=>rfl
 | true,.sl t,x,k=>A1o (cC mt true t) x k
 | false,.sl t,x,k=>A1o (cC mt true t) x k
 | c,.pair a b,x,k=>by
  have e:(mk_ mt c (.pair a b) x k).2 = (mk_ mt c b x.2 (mk_ mt c a x.1 k).2).2:=by cases c <;> rfl
  have e':nmk c (.pair a b) x = nmk c a x.1 + nmk c b x.2:=by cases c <;> rfl
  rw [e,e',cC mt c b,cC mt c a];omega
 | true,.bool,_,_=>rfl
 | true,.fn,_,_=>rfl
 | true,.unit,_,_=>rfl
 | true,.ptr _,_,_=>rfl
 | true,.arr _ _,_,_=>rfl
 | false,.int _,_,_=>rfl
 | false,.str,_,_=>rfl
 | false,.bool,_,_=>rfl
 | false,.fn,_,_=>rfl
 | false,.unit,_,_=>rfl
 | false,.ptr _,_,_=>rfl
 | false,.arr _ _,_,_=>rfl
def hl_ {α:Type} (f:α → Nat → Option Nat):List α → Nat → Option Nat
 | [],k=>some k
 | x :: xs,k=>(f x k).bind fun k=>hl_ f xs k
def hd_ (mt:Nat → List UInt8):Bool → (t:Ty) → t.D → Nat → Option Nat
 | true,.int _,x,k=>cond (eqI x (k:Int)) (some (k + 1)) none
 | true,.str,x,k=>cond (eqS x (mt k)) (some (k + 1)) none
 | _,.sl t,x,k=>hl_ (hd_ mt true t) x k
 | c,.pair a b,x,k=>(hd_ mt c a x.1 k).bind fun k=>hd_ mt c b x.2 k
 | _,_,_,k=>some k
theorem A9r {α:Type} {f:α → Nat → α × Nat} {g:α → Nat → Option Nat} (h:∀ x k,g (f x k).1 k = some (f x k).2):∀ (l:List α) (k:Nat),hl_ g (mapM f l k).1 k = some (mapM f l k).2
 | [],k=>rfl
 | x :: xs,k=>by
  show (g (f x k).1 k).bind _ = _
  rw [h x k]
  exact A9r h xs _
theorem A8O (mt:Nat → List UInt8):∀ (c:Bool) (t:Ty) (x:t.D) (k:Nat),hd_ mt c t (mk_ mt c t x k).1 k = some (mk_ mt c t x k).2
 | true,.int _,_,k=>by
  show cond (eqI (k:Int) (k:Int)) (some (k + 1)) none = some (k + 1)
  simp [eqI]
 | true,.str,_,k=>by
  show cond (eqS (mt k) (mt k)) (some (k + 1)) none = some (k + 1)
  simp [eqS]
 | true,.sl t,x,k=>A9r (A8O mt true t) x k
 | false,.sl t,x,k=>A9r (A8O mt true t) x k
 | c,.pair a b,x,k=>by
  have e:hd_ mt c (.pair a b) (mk_ mt c (.pair a b) x k).1 k = (hd_ mt c a (mk_ mt c a x.1 k).1 k).bind fun k'=>hd_ mt c b (mk_ mt c b x.2 (mk_ mt c a x.1 k).2).1 k':=by cases c <;> rfl
  rw [e,A8O mt c a]
  show hd_ mt c b _ _ = _
  rw [A8O mt c b]
  cases c <;> rfl
 | true,.bool,_,_=>rfl
 | true,.fn,_,_=>rfl
 | true,.unit,_,_=>rfl
 | true,.ptr _,_,_=>rfl
 | true,.arr _ _,_,_=>rfl
 | false,.int _,_,_=>rfl
 | false,.str,_,_=>rfl
 | false,.bool,_,_=>rfl
 | false,.fn,_,_=>rfl
 | false,.unit,_,_=>rfl
 | false,.ptr _,_,_=>rfl
 | false,.arr _ _,_,_=>rfl
theorem BP0 {α:Type} {l:List α} {i:Nat} {a:α} (h:i < l.length):(l.set i a).take (i + 1) = l.take i ++ [a]:=by
 rw [List.take_add_one,List.take_set_of_le (Nat.le_refl _),List.getElem?_set]
 simp [h]
theorem AY4 {α:Type} (F:List α → Int → Int → Option (Int × (List α × Unit))) (len:Nat) (d:α) (g:α → Nat → α × Nat) (m:α → Nat) (B:Nat) (hg:∀ x k,(g x k).2 = k + m x) (Q:α → Prop)
  (stop:∀ (w:List α) (k:Int),w.length = len → F w k (len:Nat) = some (k,(w,())))
  (step:∀ (w:List α) (k i:Nat),w.length = len → i < len → k + m (w.getD i d) ≤ B → Q (w.getD i d) → F w k i = F (w.set i (g (w.getD i d) k).1) ((g (w.getD i d) k).2:Nat) ((i + 1:Nat):Int)):
  ∀ (n i:Nat) (w:List α) (k:Nat),len - i = n → i ≤ len → w.length = len → k + ((w.drop i).map m).sum ≤ B → (∀ y ∈ w.drop i,Q y) →
   F w k i = some ((((mapM g (w.drop i) k).2:Nat):Int),(w.take i ++ (mapM g (w.drop i) k).1,()))
 | 0,i,w,k,hn,hi,hl,hb,hQ=>by
  have:i = len:=by omega
  subst this
  rw [stop w k hl,List.drop_eq_nil_of_le (by omega),List.take_of_length_le (by omega)]
  simp [mapM]
 | n + 1,i,w,k,hn,hi,hl,hb,hQ=>by
  have hlt:i < w.length:=by omega
  rw [xZ (d:=d) hlt] at hQ
  rw [xZ (d:=d) hlt,List.map_cons,List.sum_cons] at hb
  rw [step w k i hl (by omega) (by omega) (hQ _ (List.mem_cons_self ..))]
  have e:(w.set i (g (w.getD i d) k).1).drop (i + 1) = w.drop (i + 1):=by
   rw [List.drop_set_of_lt (by omega)]
  rw [AY4 F len d g m B hg Q stop step n (i + 1) _ _ (by omega) (by omega) (by simpa using hl) (by rw [e,hg];omega) (by rw [e];exact fun y hy=>hQ y (List.mem_cons_of_mem _ hy)),e,xZ (d:=d) hlt,BP0 hlt]
  simp [mapM]
theorem AX6 {α:Type} (F:Int → Int → Option (Int × Unit)) (v:List α) (d:α) (g:α → Nat → Option Nat) (m:α → Nat) (B:Nat) (hg:∀ x k k',g x k = some k' → k' = k + m x)
  (stop:∀ k,F k (v.length:Nat) = some (k,()))
  (step:∀ (k i k':Nat),i < v.length → g (v.getD i d) k = some k' → k' ≤ B → F k i = F k' ((i + 1:Nat):Int)):
  ∀ (n i k k':Nat),v.length - i = n → i ≤ v.length → k' ≤ B → hl_ g (v.drop i) k = some k' → F k i = some ((k':Int),())
 | 0,i,k,k',hn,hi,hb,hh=>by
  have:i = v.length:=by omega
  subst this
  rw [List.drop_eq_nil_of_le (by omega)] at hh
  rw [stop]
  cases hh;rfl
 | n + 1,i,k,k',hn,hi,hb,hh=>by
  have hlt:i < v.length:=by omega
  rw [xZ (d:=d) hlt] at hh
  obtain ⟨k1,h1,h2⟩:=Option.bind_eq_some_iff.1 hh
  have hle:k1 ≤ k':=by
   clear hh h1 hn stop step hb hlt hi
   generalize v.drop (i + 1) = l at h2
   induction l generalizing k1 with
   | nil=>cases h2;exact Nat.le_refl _
   | cons x xs ih=>
    obtain ⟨k2,h3,h4⟩:=Option.bind_eq_some_iff.1 h2
    have:=hg _ _ _ h3
    have:=ih k2 h4
    omega
  rw [step k i k1 hlt h1 (by omega)]
  exact AX6 F v d g m B hg stop step n (i + 1) k1 k' (by omega) (by omega) hb h2
theorem A9o {α:Type} {g:α → Nat → Option Nat} {m:α → Nat} (h:∀ x k k',g x k = some k' → k' = k + m x):∀ (l:List α) (k k':Nat),hl_ g l k = some k' → k' = k + (l.map m).sum
 | [],k,k',e=>by cases e;rfl
 | x :: xs,k,k',e=>by
  obtain ⟨k1,h1,h2⟩:=Option.bind_eq_some_iff.1 e
  have:=h _ _ _ h1
  have:=A9o h xs k1 k' h2
  rw [List.map_cons,List.sum_cons];omega
theorem fM (mt:Nat → List UInt8):∀ (c:Bool) (t:Ty) (x:t.D) (k k':Nat),hd_ mt c t x k = some k' → k' = k + nmk c t x
 | true,.int _,x,k,k',h=>by
  have h:cond (eqI x (k:Int)) (some (k + 1)) none = some k':=h
  show k' = k + 1
  cases hc:eqI x (k:Int) <;> rw [hc] at h <;> cases h
  rfl
 | true,.str,x,k,k',h=>by
  have h:cond (eqS x (mt k)) (some (k + 1)) none = some k':=h
  show k' = k + 1
  cases hc:eqS x (mt k) <;> rw [hc] at h <;> cases h
  rfl
 | true,.sl t,x,k,k',h=>A9o (fM mt true t) x k k' h
 | false,.sl t,x,k,k',h=>A9o (fM mt true t) x k k' h
 | c,.pair a b,x,k,k',h=>by
  have e:hd_ mt c (.pair a b) x k = (hd_ mt c a x.1 k).bind fun k=>hd_ mt c b x.2 k:=by cases c <;> rfl
  have e':nmk c (.pair a b) x = nmk c a x.1 + nmk c b x.2:=by cases c <;> rfl
  rw [e] at h
  obtain ⟨k1,h1,h2⟩:=Option.bind_eq_some_iff.1 h
  have:=fM mt c a _ _ _ h1
  have:=fM mt c b _ _ _ h2
  omega
 | true,.bool,_,_,_,h=>by cases h;rfl
 | true,.fn,_,_,_,h=>by cases h;rfl
 | true,.unit,_,_,_,h=>by cases h;rfl
 | true,.ptr _,_,_,_,h=>by cases h;rfl
 | true,.arr _ _,_,_,_,h=>by cases h;rfl
 | false,.int _,_,_,_,h=>by cases h;rfl
 | false,.str,_,_,_,h=>by cases h;rfl
 | false,.bool,_,_,_,h=>by cases h;rfl
 | false,.fn,_,_,_,h=>by cases h;rfl
 | false,.unit,_,_,_,h=>by cases h;rfl
 | false,.ptr _,_,_,_,h=>by cases h;rfl
 | false,.arr _ _,_,_,_,h=>by cases h;rfl
def AI8:Ty → Nat
 | .int _=>1
 | .str=>1
 | .pair a b=>AI8 a + AI8 b
 | _=>0
def BU4:Ty → Nat
 | .sl t=>max (AI8 t) (BU4 t)
 | .pair a b=>max (BU4 a) (BU4 b)
 | _=>0
theorem BF0 {α:Type} {f g:α → Nat} {B C:Nat}:∀ (l:List α),(∀ x,f x ≤ C + B * g x) → C ≤ B → (l.map f).sum ≤ B * (l.length + (l.map g).sum)
 | [],_,_=>by simp
 | x :: xs,h,hc=>by
  have h1:=h x
  have h2:=BF0 xs h hc
  simp only [List.map_cons,List.sum_cons,List.length_cons]
  have:B * (xs.length + 1 + (g x + (xs.map g).sum)) = B + B * g x + B * (xs.length + (xs.map g).sum):=by
   simp only [Nat.mul_add];omega
  omega
theorem AO3 (B:Nat):∀ (c:Bool) (t:Ty) (x:t.D),BU4 t ≤ B → nmk c t x ≤ (if c then AI8 t else 0) + B * cnt t x
 | true,.int _,_,_=>by show 1 ≤ 1 + _;omega
 | true,.str,_,_=>by show 1 ≤ 1 + _;omega
 | true,.sl t,x,h=>by
  have h:max (AI8 t) (BU4 t) ≤ B:=h
  have:=BF0 (f:=nmk true t) (g:=cnt t) x (fun y=>AO3 B true t y (by omega)) (B:=B) (C:=AI8 t) (by omega)
  show (List.map (nmk true t) x).sum ≤ 0 + B * (List.length x + (List.map (cnt t) x).sum)
  omega
 | false,.sl t,x,h=>by
  have h:max (AI8 t) (BU4 t) ≤ B:=h
  have:=BF0 (f:=nmk true t) (g:=cnt t) x (fun y=>AO3 B true t y (by omega)) (B:=B) (C:=AI8 t) (by omega)
  show (List.map (nmk true t) x).sum ≤ 0 + B * (List.length x + (List.map (cnt t) x).sum)
  omega
 | c,.pair a b,x,h=>by
  have h:max (BU4 a) (BU4 b) ≤ B:=h
  have h1:=AO3 B c a x.1 (by omega)
  have h2:=AO3 B c b x.2 (by omega)
  have e':nmk c (.pair a b) x = nmk c a x.1 + nmk c b x.2:=by cases c <;> rfl
  have e:cnt (.pair a b) x = cnt a x.1 + cnt b x.2:=rfl
  have e2:AI8 (.pair a b) = AI8 a + AI8 b:=rfl
  rw [e',e,e2,Nat.mul_add]
  cases c
  ·simp only [if_neg (show ¬ (false = true) by decide)] at *;omega
  ·simp only [if_true] at *;omega
 | true,.bool,_,_=>Nat.zero_le _
 | true,.fn,_,_=>Nat.zero_le _
 | true,.unit,_,_=>Nat.zero_le _
 | true,.ptr _,_,_=>Nat.zero_le _
 | true,.arr _ _,_,_=>Nat.zero_le _
 | false,.int _,_,_=>Nat.zero_le _
 | false,.str,_,_=>Nat.zero_le _
 | false,.bool,_,_=>Nat.zero_le _
 | false,.fn,_,_=>Nat.zero_le _
 | false,.unit,_,_=>Nat.zero_le _
 | false,.ptr _,_,_=>Nat.zero_le _
 | false,.arr _ _,_,_=>Nat.zero_le _
def nH:(t:Ty) → t.D → Nat
 | .sl t,x=>List.length x + (List.map (nH t) x).sum
 | .pair a b,x=>nH a x.1 + nH b x.2
 | _,_=>0
theorem A8h {α:Type} {f g:α → Nat}:∀ (l:List α),(∀ x,f x ≤ g x) → (l.map f).sum ≤ (l.map g).sum
 | [],_=>Nat.le_refl _
 | x :: xs,h=>by
  have:=h x
  have:=A8h xs h
  simp only [List.map_cons,List.sum_cons];omega
theorem AW2:∀ (t:Ty) (x:t.D),nH t x ≤ cnt t x
 | .sl t,x=>by
  have:=A8h (f:=nH t) (g:=cnt t) x (AW2 t)
  show List.length x + _ ≤ List.length x + _
  omega
 | .pair a b,x=>by
  have:=AW2 a x.1
  have:=AW2 b x.2
  show nH a x.1 + nH b x.2 ≤ cnt a x.1 + cnt b x.2
  omega
 | .int _,_=>Nat.zero_le _
 | .bool,_=>Nat.zero_le _
 | .str,_=>Nat.zero_le _
 | .fn,_=>Nat.zero_le _
 | .unit,_=>Nat.zero_le _
 | .ptr _,_=>Nat.zero_le _
 | .arr _ _,_=>Nat.zero_le _
theorem Ao2 {α:Type} {f:α → Nat → α × Nat} {m:α → Nat} (h:∀ x k,m (f x k).1 = m x):∀ (l:List α) (k:Nat),(mapM f l k).1.length = l.length ∧ ((mapM f l k).1.map m).sum = (l.map m).sum
 | [],_=>⟨rfl,rfl⟩
 | x :: xs,k=>by
  obtain ⟨h1,h2⟩:=Ao2 h xs (f x k).2
  refine ⟨congrArg (· + 1) h1,?_⟩
  show m (f x k).1 + ((mapM f xs (f x k).2).1.map m).sum = _
  rw [h,h2];rfl
theorem Ac9 (mt:Nat → List UInt8):∀ (c:Bool) (t:Ty) (x:t.D) (k:Nat),nH t (mk_ mt c t x k).1 = nH t x
 | true,.sl t,x,k=>by
  obtain ⟨h1,h2⟩:=Ao2 (m:=nH t) (Ac9 mt true t) x k
  show List.length (mapM (mk_ mt true t) x k).1 + _ = List.length x + _
  exact (congr (congrArg HAdd.hAdd h1) h2)
 | false,.sl t,x,k=>by
  obtain ⟨h1,h2⟩:=Ao2 (m:=nH t) (Ac9 mt true t) x k
  show List.length (mapM (mk_ mt true t) x k).1 + _ = List.length x + _
  exact (congr (congrArg HAdd.hAdd h1) h2)
 | c,.pair a b,x,k=>by
  have h1:=Ac9 mt c a x.1 k
  have h2:=Ac9 mt c b x.2 (mk_ mt c a x.1 k).2
  have e:nH (.pair a b) (mk_ mt c (.pair a b) x k).1 = nH a (mk_ mt c a x.1 k).1 + nH b (mk_ mt c b x.2 (mk_ mt c a x.1 k).2).1:=by cases c <;> rfl
  rw [e,h1,h2];rfl
 | true,.int _,_,_=>rfl
 | true,.str,_,_=>rfl
 | true,.bool,_,_=>rfl
 | true,.fn,_,_=>rfl
 | true,.unit,_,_=>rfl
 | true,.ptr _,_,_=>rfl
 | true,.arr _ _,_,_=>rfl
 | false,.int _,_,_=>rfl
 | false,.str,_,_=>rfl
 | false,.bool,_,_=>rfl
 | false,.fn,_,_=>rfl
 | false,.unit,_,_=>rfl
 | false,.ptr _,_,_=>rfl
 | false,.arr _ _,_,_=>rfl
theorem A4l {α:Type} {f:α → Nat}:∀ {l:List α} {y:α},y ∈ l → f y ≤ (l.map f).sum
 | x :: xs,y,h=>by
  simp only [List.map_cons,List.sum_cons]
  rcases List.mem_cons.1 h with e | e
  ·subst e;omega
  ·have:=A4l (f:=f) e
   omega
theorem A4X {t:Ty} {x:List t.D} {i:Nat} {d:t.D} (h:i < x.length):cnt t (x.getD i d) ≤ cnt (.sl t) x:=by
 have:=A4l (f:=cnt t) (sL (d:=d) h)
 show _ ≤ List.length x + (List.map (cnt t) x).sum
 omega
theorem At5 {t:Ty} {x:List t.D} {y:t.D} (h:y ∈ x):nH t y ≤ nH (.sl t) x:=by
 have:=A4l (f:=nH t) h
 show _ ≤ List.length x + (List.map (nH t) x).sum
 omega
theorem Ak3 {t:Ty} {x:List t.D} {i:Nat} {d:t.D} (h:i < x.length):nH t (x.getD i d) ≤ nH (.sl t) x:=At5 (sL (d:=d) h)
theorem BB1 {a c:Nat} {l:Int} (h:(a:Int) ≤ l):szF c (l - a) = szF (a + c) l:=by
 unfold szF
 by_cases h2:(c:Int) ≤ l - a
 ·rw [if_pos h2,if_pos (by omega)];omega
 ·rw [if_neg h2,if_neg (by omega)]
theorem BX6 (k:Nat):decide ((k:Int) < 0) = false:=decide_eq_false (by omega)
theorem Ar3 {α β:Type} {b:Bool} {a:α} {f:α → Option β} {c:β} (h:(cond b (some a) none).bind f = some c):b = true ∧ f a = some c:=by
 cases b with
 | true=>exact ⟨rfl,h⟩
 | false=>cases h
theorem A2W {α:Type} {b:Bool} {a c:α} (h:cond b (some a) none = some c):b = true ∧ some a = some c:=by
 cases b with
 | true=>exact ⟨rfl,h⟩
 | false=>cases h
def BI2 {α:Type} (p:α → Bool):List α → Nat → Int
 | [],_=>-1
 | x :: xs,i=>cond (p x) (i:Int) (BI2 p xs (i + 1))
theorem AL6 {α:Type} (p:α → Bool):∀ (l:List α) (i:Nat),decide (0 ≤ BI2 p l i) = l.any p
 | [],_=>rfl
 | x :: xs,i=>by
  show decide (0 ≤ cond (p x) (i:Int) (BI2 p xs (i + 1))) = (p x || xs.any p)
  cases p x with
  | true=>exact decide_eq_true (by simp only [cond_true];omega)
  | false=>simp only [cond_false,Bool.false_or];exact AL6 p xs (i + 1)
theorem Ad1 {α:Type} (F:Int → Int → Option (Int × Unit)) (v:List α) (d:α) (p:α → Bool)
  (stop:∀ a,F a (v.length:Nat) = some (-1,()))
  (step:∀ (a:Int) (i:Nat),i < v.length → F a i = cond (p (v.getD i d)) (some ((i:Int),())) (F i ((i + 1:Nat):Int))):
  ∀ (n i:Nat) (a:Int),v.length - i = n → i ≤ v.length → F a i = some (BI2 p (v.drop i) i,())
 | 0,i,a,hn,hi=>by
  have:i = v.length:=by omega
  subst this
  rw [stop,List.drop_eq_nil_of_le (Nat.le_refl _)];rfl
 | n + 1,i,a,hn,hi=>by
  rw [step a i (by omega),xZ (d:=d) (by omega),Ad1 F v d p stop step n (i + 1) i (by omega) (by omega)]
  show _ = some (cond (p (v.getD i d)) (i:Int) (BI2 p (v.drop (i + 1)) (i + 1)),())
  cases p (v.getD i d) <;> rfl
theorem Aq7 {α:Type} (p:α → Bool) (l:List α):(!l.any fun x=>!p x) = l.all p:=by
 simp [List.all_eq_not_any_not]
theorem gs {α:Type} {l:List α} {i:Nat} {a d:α} (h:i < l.length):(l.set i a).getD i d = a:=by
 rw [List.getD_eq_getElem?_getD,List.getElem?_set];simp [h]
theorem ss {α:Type} {l:List α} {i:Nat} {a b:α}:(l.set i a).set i b = l.set i b:=List.set_set ..
theorem A5a {α β:Type} {o:Option α} {a:α} {f:α → Option β} {r:Option β} (h:o = some a) (h2:f a = r):o.bind f = r:=by rw [h];exact h2
end Go.Rf

end
