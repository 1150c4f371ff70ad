/- An interpreter of the code over plain data, proved right against the machine: part 3. No condition. -/
import Derived.Test.YtpnhinlcggjjkaaGreatRfB
import Derived.Tactics
import Derived.Orders
import Derived.OpenShut
import Derived.ChangeOld
import Derived.WalkKit
import Derived.ProofKit
import Derived.ShutString
import Derived.SizedLaws
import Derived.Test.YtpnhinlcggjjkaaGreatRfA
set_option linter.unusedVariables false
set_option linter.unusedSimpArgs false
section
namespace Go.Rf
set_option linter.unusedSectionVars false
variable [T : Laid]
variable {ρ : Type}
theorem yU {o : Oper} {us : List Up} {v : SV} {κ : List Up → Option ρ} : qK o us v κ = (qK o us v some).bind κ := by
 unfold qK; split <;> rfl
theorem A85 {α γ : Type} {b : Bool} {x y : Option α} {f : α → Option γ} : (cond b x y).bind f = cond b (x.bind f) (y.bind f) := by cases b <;> rfl
theorem A6X {g : zY} {mv : Bool} {o : Oper} {t : Option Ty} {x : Operand} {κ : List Up → Option ρ} : A3d g mv o t x κ = (A3d g mv o t x some).bind κ := by
 unfold A3d; (repeat' split) <;> first | rfl | exact yU
theorem A7p {g : zY} {o : Oper} {x : Operand} {κ : List Up → Option ρ} : BS4 g o x κ = (BS4 g o x some).bind κ := by
 unfold BS4; (repeat' split) <;> first | rfl | exact yU
theorem A1c {g : zY} {mv : Bool} {o : Oper} {t : Option Ty} {x : Operand} {κ : List Up → Option ρ} : AT1 g mv o t x κ = (AT1 g mv o t x some).bind κ := by
 unfold AT1; (repeat' split) <;> first | rfl | exact yU
theorem A5n {g : zY} {o : Oper} {t : Option Ty} {x : Operand} {κ : List Up → Option ρ} : A58 g o t x κ = (A58 g o t x some).bind κ := by
 unfold A58; (repeat' split) <;> first | rfl | exact yU
theorem Ar8 {α : Type} {κ : α → Option ρ} {x : Option α} : ∀ {cs : List Bool}, (A3S cs x).bind κ = A3S cs (x.bind κ)
 | [] => rfl
 | b :: l => by simp only [A3S]; rw [A85, Ar8]; rfl
theorem A2v {g : zY} {mv : Bool} {o : Oper} {t : Option Ty} {x y : Operand} {κ : List Up → Option ρ} : An2 g mv o t x y κ = (An2 g mv o t x y some).bind κ := by
 unfold An2; (repeat' split) <;> first | rfl | (rw [Ar8]; rfl)
theorem Ah1 {g : zY} {o : Oper} {t : Option Ty} {x : Operand} {i : Nat} {κ : List Up → Option ρ} : fC g o t x i κ = (fC g o t x i some).bind κ := by
 unfold fC; (repeat' split) <;> first | rfl | exact yU
theorem Ae7 {g : zY} {o : Oper} {t : Option Ty} {x i : Operand} {κ : List Up → Option ρ} : gU g o t x i κ = (gU g o t x i some).bind κ := by
 unfold gU; simp only [Bool.cond_eq_ite]; (repeat' split) <;> first | rfl | exact yU
theorem A3y {g : zY} {o : Oper} {t : Option Ty} {x i : Operand} {κ : List Up → Option ρ} : Aq8 g o t x i κ = (Aq8 g o t x i some).bind κ := by
 unfold Aq8; simp only [Bool.cond_eq_ite]; (repeat' split) <;> first | rfl | exact yU
theorem A2p {E : Env} {g : zY} {mv : Bool} {o : Oper} {t : TypeId} {ps : Array (Nat × Operand)} {κ : List Up → Option ρ} : Ap0 E g mv o t ps κ = (Ap0 E g mv o t ps some).bind κ := by
 unfold Ap0; (repeat' split) <;> first | rfl | exact yU
theorem Ab1 {E : Env} {g : zY} {mv : Bool} {o : Oper} {t : TypeId} {n : Nat} {ps : Array (Nat × Operand)} {κ : List Up → Option ρ} : jG E g mv o t n ps κ = (jG E g mv o t n ps some).bind κ := by
 unfold jG; (repeat' split) <;> first | rfl | exact yU
theorem Af0 {E : Env} {g : zY} {mv : Bool} {o : Oper} {t : TypeId} {l c : Operand} {κ : List Up → Option ρ} : gV E g mv o t l c κ = (gV E g mv o t l c some).bind κ := by
 unfold gV; simp only [Bool.cond_eq_ite]; (repeat' split) <;> first | rfl | exact yU
theorem bR {x : Option SV} {d : Nat} {κ : Nat → Option (List Up)} {κ' : List Up → Option ρ} : (AR0 x d κ).bind κ' = AR0 x d fun n => (κ n).bind κ' := by
 unfold AR0; simp only [Bool.cond_eq_ite]; (repeat' split) <;> first | rfl
theorem A2l {g : zY} {o : Oper} {t : Option Ty} {x : Operand} {lo hi : Option Operand} {κ : List Up → Option ρ} : Ar2 g o t x lo hi κ = (Ar2 g o t x lo hi some).bind κ := by
 unfold Ar2
 split
 ·rw [bR]; congr; funext h; rw [bR]; congr; funext l
  simp only [Bool.cond_eq_ite]; (repeat' split) <;> first | rfl | exact yU
 ·split
  ·split
   ·rw [bR]; congr; funext h; rw [bR]; congr; funext l
    simp only [Bool.cond_eq_ite]; (repeat' split) <;> first | rfl | exact yU
   ·rfl
  ·rfl
 ·rfl
theorem A1W {g : zY} {o : Oper} {t t' : Option Ty} {x y : Operand} {κ : List Up → Option ρ} : AS3 g o t t' x y κ = (AS3 g o t t' x y some).bind κ := by
 unfold AS3; simp only [Bool.cond_eq_ite]; (repeat' split) <;> first | rfl | exact yU
theorem A7q {g : zY} {o : Oper} {t : Option Ty} {x : Operand} {κ : List Up → Option ρ} : BT2 g o t x κ = (BT2 g o t x some).bind κ := by
 unfold BT2; (repeat' split) <;> first | rfl | exact yU
theorem A62 {g : zY} {o : Oper} {xs : List Operand} {κ : List Up → Option ρ} : BU0 g o xs κ = (BU0 g o xs some).bind κ := by
 unfold BU0; (repeat' split) <;> first | rfl | exact yU
theorem Aw4 {g : zY} {o : Oper} {x : Operand} {i : Nat} {κ : List Up → Option ρ} : eV g o x i κ = (eV g o x i some).bind κ := by
 unfold eV; (repeat' split) <;> first | rfl | exact yU
theorem A5j {g : zY} {o : Oper} {c x y : Operand} {κ : List Up → Option ρ} : A5I g o c x y κ = (A5I g o c x y some).bind κ := by
 unfold A5I
 split
 ·rename_i t _
  cases t
  ·simp only [cond_false]; split <;> first | rfl | exact yU
  ·simp only [cond_true]; split <;> first | rfl | exact yU
 ·rfl
theorem A3i {E : Env} {mv : Bool} {o : Oper} {t : TypeId} {κ : List Up → Option ρ} : Ao4 E mv o t κ = (Ao4 E mv o t some).bind κ := by
 unfold Ao4; (repeat' split) <;> first | rfl | exact yU
theorem A83 {E : Env} {g : zY} {mv : Bool} {o : Oper} {t : TypeId} {x : Operand} {κ : List Up → Option ρ} : BT1 E g mv o t x κ = (BT1 E g mv o t x some).bind κ := by
 unfold BT1; (repeat' split) <;> first | rfl | exact yU
theorem A8c {op : BinOp} {k k' : IntKind} {x y : Int} {o : Oper} {κ : List Up → Option ρ} : BS6 op k x k' y (fun d => qK o [] (.dat d) κ) = (BS6 op k x k' y (fun d => qK o [] (.dat d) some)).bind κ := by
 unfold BS6; simp only [Bool.cond_eq_ite]; (repeat' split) <;> first | rfl | exact yU
theorem A6t {op : BinOp} {t : Option Ty} {x y : SV} {o : Oper} {κ : List Up → Option ρ} : BS7 op t x y (fun d => qK o [] (.dat d) κ) = (BS7 op t x y (fun d => qK o [] (.dat d) some)).bind κ := by
 unfold BS7
 split
 ·exact A8c
 ·unfold Bc2; simp only [Bool.cond_eq_ite]; (repeat' split) <;> first | rfl | exact yU
 ·(repeat' split) <;> first | rfl | exact yU
 ·rfl
theorem A8p {E : Env} {op : BinOp} {t : TypeId} {x y : SV} {o : Oper} {κ : List Up → Option ρ} : BT4 E op t x y (fun d => qK o [] (.dat d) κ) = (BT4 E op t x y (fun d => qK o [] (.dat d) some)).bind κ := by
 unfold BT4
 split
 ·(repeat' split) <;> first | rfl | exact yU
 ·exact A6t
theorem A8l {g : zY} {o : Oper} {op : BinOp} {t : Option Ty} {x : Operand} {κ : List Up → Option ρ} : BS8 g o op t x κ = (BS8 g o op t x some).bind κ := by
 unfold BS8
 (repeat' split) <;> first | rfl | (generalize Nat.beq _ _ = q; cases q <;> exact yU)
theorem BA0 {op : UnOp} {x : SV} {o : Oper} {κ : List Up → Option ρ} : unK op x (fun d => qK o [] (.dat d) κ) = (unK op x (fun d => qK o [] (.dat d) some)).bind κ := by
 unfold unK; (repeat' split) <;> first | rfl | exact yU
theorem A50 {s t : Option Ty} {x : Option Dat} {o : Oper} {κ : List Up → Option ρ} : Ak5 s t x (fun d => qK o [] (.dat d) κ) = (Ak5 s t x (fun d => qK o [] (.dat d) some)).bind κ := by
 unfold Ak5; (repeat' split) <;> first | rfl | exact yU
theorem eB {E : Env} {R : Run E} {g : zY} {o : Oper} {f : FuncId} {xs : List Operand} {κ : List Up → Option ρ} : AI6 E R g o f xs κ = (AI6 E R g o f xs some).bind κ := by
 unfold AI6
 split
 ·split
  ·split
   ·rw [Option.bind_assoc]
    congr
    funext x
    (repeat' split) <;> rfl
   ·rfl
  ·rfl
 ·rfl
theorem A6i {E : Env} {R : Run E} {g : zY} {o : Oper} {f : FuncId} {xs : List Operand} {κ : List Up → Option ρ} : Aa6 E R g o f xs κ = (Aa6 E R g o f xs some).bind κ := by
 unfold Aa6
 rw [eB (κ := fun us => κ (softs o.dst g us)), eB (κ := fun us => some (softs o.dst g us)), Option.bind_assoc]
 rfl
theorem A3Y {E : Env} {R : Run E} {g : zY} {o : Oper} {v : FnVal} {xs : List Operand} {ts : List TypeId} {κ : List Up → Option ρ} : aP E R g o v xs ts κ = (aP E R g o v xs ts some).bind κ := by
 unfold aP
 split
 ·split
  ·rw [Option.bind_assoc]
   congr
   funext x
   exact yU
  ·rfl
 ·rfl
theorem A3r {g : zY} {o : Oper} {t : Option Ty} {x : Operand} {i : Nat} {κ : List Up → Option ρ} : Ar0 g o t x i κ = (Ar0 g o t x i some).bind κ := by
 unfold Ar0; (repeat' split) <;> first | rfl | exact yU
theorem A5q {g : zY} {o : Oper} {t : Option Ty} {x y : Operand} {κ : List Up → Option ρ} : A5y g o t x y κ = (A5y g o t x y some).bind κ := by
 unfold A5y; simp only [Bool.cond_eq_ite]; (repeat' split) <;> rfl
theorem Az2 {E : Env} {g : zY} {o : Oper} {b : Builtin} {c : Call} {κ : List Up → Option ρ} : AG1 E g o b c κ = (AG1 E g o b c some).bind κ := by
 unfold AG1
 split
 ·exact A7q
 ·exact A1W
 ·exact A62
 ·exact A5q
 ·rfl
theorem aA {E : Env} {R : Run E} {mv : Bool} {g : zY} {o : Oper} {κ : List Up → Option ρ} : opK E R mv g o κ = (opK E R mv g o some).bind κ := by
 unfold opK
 split
 ·exact A6X
 ·exact A1c
 ·exact A5j
 ·exact A3i
 ·exact A83
 ·exact A2p
 ·exact Ab1
 ·exact A5n
 ·exact A2v
 ·exact A7p
 ·split
  ·exact A8l
  ·exact A8p
 ·exact BA0
 ·exact A50
 ·(repeat' split) <;> first | rfl | exact yU
 ·exact Af0
 ·exact A2l
 ·exact Ah1
 ·exact Ae7
 ·exact A3y
 ·exact Aw4
 ·exact A3r
 ·split
  ·exact Az2
  ·exact A6i
  ·split
   ·exact A3Y
   ·rfl
  ·rfl
 ·rfl
end Go.Rf

end
section
namespace Go.Rf
set_option linter.unusedSectionVars false
variable [T : Laid]
section
variable {P : Program} {H : Nat → Option (List Value)} {N : Nat} {g g' σ : zY} {V V' : Nat → Option Value} {w w' : World} {S S' : Nat → Prop} {β β' : Key → Option Nat} {a : Act} {o : Oper}
variable {E : Env} {gv : zY} {us : List Up} {ρ : Type}
theorem A68 {l : List Slot} {i : Nat} (h : l.length ≤ i) : (at? l i).sv = .dead := by
 unfold at?; simp [List.getD, List.getElem?_eq_none h, Slot.dead]
theorem A7j {l : List Slot} : yH l.length (at? l) := fun _ hi => A68 hi
theorem AS9 {l : List Slot} {u : Up} : (upL l u).length = l.length := by simp [upL]
theorem rR : ∀ {us : List Up} {l : List Slot}, (mL l us).length = l.length
 | [], _ => rfl
 | u :: us, l => by simp only [mL]; rw [rR, AS9]
theorem A76 {l : List Slot} {u : Up} {i : Nat} (hi : i < l.length) : at? (upL l u) i = (zY.up (at? l) u) i := by
 unfold at? upL
 by_cases e : i = u.slot
 ·subst e
  rw [oH]
  simp [List.getD, hi, at?]
 ·rw [rI e]
  simp [List.getD, List.getElem?_set, Ne.symm e]
theorem A8V : ∀ {us : List Up} {l : List Slot} {g : zY}, (∀ i, i < l.length → at? l i = g i) → ∀ i, i < l.length → at? (mL l us) i = (g.ups us) i
 | [], _, _, h => h
 | u :: us, l, g, h => by
  intro i hi
  simp only [mL]
  refine A8V (g := g.up u) (fun j hj => ?_) i (by rw [AS9]; exact hi)
  rw [AS9] at hj
  rw [A76 hj]
  by_cases e : j = u.slot
  ·subst e; rw [oH, oH, h _ hj]
  ·rw [rI e, rI e, h j hj]
theorem A4t {l : List Slot} {fp : List Nat} : Sub (sG l fp) (at? l) := fun i => by
 unfold sG
 by_cases h : (fp.any (Nat.beq i ·)) = true
 ·right; simp [h]
 ·left; simp [h, Slot.dead]
theorem AF3 {l : List Slot} {i : Nat} {v : SV} (h : (at? l i).sv = v) : Ak8 l i v = l := by
 unfold Ak8
 by_cases hi : i < l.length
 ·apply List.ext_getElem?
  intro j
  rw [List.getElem?_set]
  split
  ·rename_i e; subst e
   have : at? l i = l[i] := by simp [at?, List.getD, hi]
   rw [List.getElem?_eq_getElem hi, ← this, ← h]
  ·rfl
 ·rw [List.set_eq_of_length_le (by omega)]
def AM9 (E : Env) (R : Run E) : Prop := ∀ (H : Nat → Option (List Value)) (S : Nat → Prop) (β : Key → Option Nat) (a : Act) (w : World) (o : Oper) (g gv : zY) (us : List Up),
 Ctx E.P H S β a w o g → Sub gv g →
  (∀ c f, o.op = .call c → c.callee = .value (.func f) → Aa6 E R gv o f c.args.toList some = some us → yJ E.P H S β a w o (g.ups us)) ∧
  (∀ c s v f, o.op = .call c → c.callee = .value (.tmp s) → yR gv (gv s).sv = some ⟨.fn, v, f⟩ → aP E R gv o v c.args.toList c.argTypes.toList some = some us → yJ E.P H S β a w o (g.ups us))
theorem A7k {R : Run E} (hR : AM9 E R) {mv : Bool} {l : List Slot} {fp : List Nat} {κ : List Up → Option ρ} {r : ρ} {K : Act → World → Prop} {Q : Exit → Act → World → Prop} (hl : l.length = a.tmps.size) (h : Rel H a.tmps.size (at? l) (qR a) w S β) (hi : opIn a.tmps.size o = true)
  (hk : opK E R mv (sG l fp) o κ = some r)
  (hK : ∀ us a' w' S' β', κ us = some r → a'.tmps.size = a.tmps.size → a'.defers = a.defers → Rel H a.tmps.size (at? (mL l us)) (qR a') w' S' β' → Step w S β w' S' β' → K a' w') : o.wp E.P a w K Q := by
 rw [aA] at hk
 obtain ⟨us, h1, h2⟩ := Option.bind_eq_some_iff.1 hk
 have hc : Ctx E.P H S β a w o (at? l) := ⟨h, hl ▸ A7j, hi⟩
 obtain ⟨c1, c2⟩ := hR H S β a w o (at? l) (sG l fp) us hc A4t
 refine A8T hc A4t c1 c2 h1 K Q fun a' w' S' β' e1 e2 e3 e4 => hK us a' w' S' β' h2 e1 e2 (e3.fin (fun i hi => ?_) (fun i hi => ?_) (fun _ _ => rfl)) e4
 ·exact A8V (fun _ _ => rfl) i (by omega)
 ·exact A68 (by rw [rR]; omega)
theorem Rel.unset {d : Nat} {l : List Slot} (hl : l.length = a.tmps.size) (h : Rel H a.tmps.size (at? l) (qR a) w S β) (hd : d < a.tmps.size) : Rel H a.tmps.size (at? (upL l (.put d .und))) (qR (a.put (some d) undef)) w S β := by
 rw [vS hd]
 have h1 : Rel H a.tmps.size (zY.up (at? l) (.put d .und)) (upd (qR a) d undef) w S β :=
  h.put h.sane (fun b hb => ⟨hb, rfl⟩) (fun _ _ _ _ _ hb => ⟨hb, rfl⟩) (fun j hj => by simp [upd, hj]) (by simp [qE, upd])
 refine h1.fin (fun i hi => A76 (by omega)) (fun i hi => A68 (by rw [AS9]; omega)) (fun _ _ => rfl)
theorem AM2 {all : List Oper} {j g : Nat} {l : List Slot} {t : Bool} (h : Rel H N (at? l) (qR a) w S β) (hg : (all[j]?).bind Oper.dst = some g) (hv : (at? l g).sv = .dat ⟨.bool, t, .sh⟩) : yielded all.toArray a.tmps j = some t := by
 have := AU5 (x := .tmp g) h (show sv (at? l) (.tmp g) = _ from hv) iT
 simp only [evl, qR] at this
 unfold yielded
 simp only [List.getElem?_toArray]
 rw [hg]
 simp [this]
theorem Ah8 {all : List Oper} {j g : Nat} {l : List Slot} (h : Rel H N (at? l) (qR a) w S β) (hg : (all[j]?).bind Oper.dst = some g) (hv : (at? l g).sv = .und) : yielded all.toArray a.tmps j = none := by
 have := h.slots g
 rw [hv] at this
 simp only [qE, qR] at this
 unfold yielded
 simp only [List.getElem?_toArray]
 rw [hg]
 simp [this, undef]
theorem aE {R : Run E} (hR : AM9 E R) {mv : List Nat} {all : List Oper} {κ : List Slot → Option ρ} {r : ρ} {Q : Exit → Act → World → Prop} : ∀ {os : List Oper} {i : Nat} {l : List Slot} {acc : List Rec} {a : Act} {w : World} {S : Nat → Prop} {β : Key → Option Nat},
  l.length = a.tmps.size → Rel H a.tmps.size (at? l) (qR a) w S β → (∀ o ∈ os, opIn a.tmps.size o = true) →
  gQ E R mv all false os i l acc κ = some r →
  (∀ l' a' w' S' β', l'.length = a.tmps.size → κ l' = some r → a'.tmps.size = a.tmps.size → a'.defers = a.defers → Rel H a.tmps.size (at? l') (qR a') w' S' β' → Step w S β w' S' β' → Q .normal a' w') →
  wpList E.P all.toArray Q os a w
 | [], i, l, acc, a, w, S, β, hl, h, _, hk, hQ => hQ l a w S β hl hk rfl rfl h .refl
 | o :: os, i, l, acc, a, w, S, β, hl, h, hin, hk, hQ => by
  have hgo : ∀ {gs : List Nat} {l : List Slot}, l.length = a.tmps.size → Rel H a.tmps.size (at? l) (qR a) w S β →
    opK E R (mv.any (Nat.beq i ·)) (sG l (Ak0 o l)) o (fun us => gQ E R mv all false os (i + 1) (mL l us) (acc ++ [AR9 (mv.any (Nat.beq i ·)) gs l o us]) κ) = some r →
    Region.wanted o (yielded all.toArray a.tmps) = true → wpList E.P all.toArray Q (o :: os) a w := by
   intro gs l hl h hk hw
   unfold wpList
   rw [if_pos hw]
   left
   refine A7k hR hl h (hin o (by simp)) hk fun us a' w' S' β' e0 e1 e2 e3 e4 => ?_
   refine aE hR (l := mL l us) (by rw [rR, hl, e1]) (by rw [e1]; exact e3) (fun o ho => by rw [e1]; exact hin o (by simp [ho])) e0 ?_
   intro l' a'' w'' S'' β'' f1 f2 f3 f4 f5 f6
   exact hQ l' a'' w'' S'' β'' (f1.trans e1) f2 (f3.trans e1) (f4.trans e2) (by rw [← e1]; exact f5) (e4.trans f6)
  have hskip : ∀ {gs : List Nat} {l : List Slot}, l.length = a.tmps.size → Rel H a.tmps.size (at? l) (qR a) w S β →
    (match o.dst with
     | some d => gQ E R mv all false os (i + 1) (upL l (.put d .und)) (acc ++ [⟨gs, [d], [], [d], [], [d]⟩]) κ
     | none => gQ E R mv all false os (i + 1) l (acc ++ [⟨gs, [], [], [], [], []⟩]) κ) = some r →
    Region.wanted o (yielded all.toArray a.tmps) = false → wpList E.P all.toArray Q (o :: os) a w := by
   intro gs l hl h hk hw
   unfold wpList
   rw [if_neg (by rw [hw]; simp)]
   split at hk
   ·rename_i d hd
    have hdN := xO (hin o (by simp)) hd
    rw [hd]
    have hs : (a.put (some d) undef).tmps.size = a.tmps.size := wW
    refine aE hR (l := upL l (.put d .und)) (by rw [AS9, hl, hs]) (by rw [hs]; exact h.unset hl hdN) (fun o ho => by rw [hs]; exact hin o (by simp [ho])) hk ?_
    intro l' a'' w'' S'' β'' f1 f2 f3 f4 f5 f6
    exact hQ l' a'' w'' S'' β'' (f1.trans hs) f2 (f3.trans hs) (f4.trans yS) (by rw [← hs]; exact f5) f6
   ·rename_i hd
    rw [hd]
    exact aE hR hl h (fun o ho => hin o (by simp [ho])) hk hQ
  unfold gQ at hk
  simp only at hk
  split at hk
  ·rename_i hg
   exact hgo hl h hk (by simp [Region.wanted, hg])
  ·rename_i j want hg
   split at hk
   ·cases hk
   ·rename_i g hgd
    split at hk
    ·rename_i t hv
     have hy := AM2 h hgd hv
     cases t with
     | true =>
      simp only [cond_true] at hk
      rw [AF3 hv] at hk
      split at hk
      ·rename_i hw; exact hgo hl h hk (by simp [Region.wanted, hg, hy, hw])
      ·rename_i hw; exact hskip hl h hk (by simp [Region.wanted, hg, hy]; simpa using hw)
     | false =>
      simp only [cond_false] at hk
      rw [AF3 hv] at hk
      split at hk
      ·rename_i hw; exact hskip hl h hk (by simp [Region.wanted, hg, hy, hw])
      ·rename_i hw; exact hgo hl h hk (by simp [Region.wanted, hg, hy]; simpa using hw)
    ·rename_i hv
     have hy := Ah8 h hgd hv
     exact hskip hl h hk (by simp [Region.wanted, hg, hy])
    ·cases hk
end
end Go.Rf

end
section
namespace Go.Rf
set_option linter.unusedSectionVars false
variable [T : Laid]
section
variable {P : Program} {H : Nat → Option (List Value)} {N : Nat} {V V' : Nat → Option Value} {w w' : World} {S S' : Nat → Prop} {β β' : Key → Option Nat} {a : Act} {o : Oper}
theorem AQ5 {keep : List Nat} {l : List Slot} : ∀ {xs : List Slot} {i : Nat}, (AL3 keep l xs i).length = xs.length
 | [], _ => rfl
 | x :: xs, i => by simp [AL3, AQ5]
theorem Ag4 {keep : List Nat} {l : List Slot} : ∀ {xs : List Slot} {i j : Nat}, j < xs.length → (AL3 keep l xs i)[j]? = some (if keep.any (Nat.beq (i + j) ·) then AS4 l (at? xs j).sv else .dead)
 | [], _, _, h => by simp at h
 | x :: xs, i, 0, _ => by simp [AL3, at?]
 | x :: xs, i, j + 1, h => by
  simp only [AL3, List.getElem?_cons_succ]
  rw [Ag4 (by simpa using h)]
  rw [show i + 1 + j = i + (j + 1) by omega]
  simp [at?, List.getD]
theorem iI {σ : List SV} {i : Nat} : at? (kZ σ) i = (match σ[i]? with | some v => ⟨v, 0, 0, 0⟩ | none => Slot.dead) := by
 unfold at? kZ
 rw [List.getD, List.getElem?_map]
 cases σ[i]? <;> rfl
theorem A7d {keep : List Nat} {l : List Slot} (h : Rel H N (at? l) V w S β) (hl : l.length = N) : Rel H N (at? (kZ (AL3 keep l l 0))) V w S β := by
 have back : ∀ {r : Nat} {dr : Dat}, (at? (kZ (AL3 keep l l 0)) r).sv = .dat dr → (at? l r).sv = .dat dr := by
  intro r dr hr
  rw [iI] at hr
  by_cases hrl : r < l.length
  ·rw [Ag4 hrl] at hr
   simp only at hr
   split at hr
   ·revert hr
    cases hv : (at? l r).sv <;> simp only [AS4] <;> intro hr
    ·cases hr
    ·exact hr
    ·cases hr
    ·split at hr <;> cases hr
    ·split at hr <;> cases hr
    ·cases hr
    ·split at hr <;> cases hr
    ·cases hr
    ·cases hr
    ·cases hr
   ·cases hr
  ·have : (AL3 keep l l 0)[r]? = none := List.getElem?_eq_none (by rw [AQ5]; omega)
   rw [this] at hr; cases hr
 refine ⟨h.sane, fun i => ?_⟩
 rw [iI]
 by_cases hil : i < l.length
 ·rw [Ag4 hil]
  simp only [Nat.zero_add]
  split
  ·have hs := h.slots i
   cases hv : (at? l i).sv with
   | dead => trivial
   | nils => rw [hv] at hs; exact hs.elim
   | und => trivial
   | unk => rw [hv] at hs; exact hs
   | dat d => rw [hv] at hs; exact hs
   | tup d => rw [hv] at hs; exact hs
   | pend _ _ _ _ _ _ => trivial
   | adr r p c s =>
    rw [hv] at hs
    obtain ⟨k0, _, _, k3⟩ := hs
    simp only [AS4]
    split
    ·rename_i hok
     exact ⟨k0, Nat.zero_le _, Nat.zero_le _, fun _ dr hdr => k3 hok dr (back hdr)⟩
    ·trivial
   | als r p c s =>
    rw [hv] at hs
    obtain ⟨k0, _, _, k3⟩ := hs
    simp only [AS4]
    split
    ·rename_i hok
     exact ⟨k0, Nat.zero_le _, Nat.zero_le _, fun _ dr hdr => k3 hok dr (back hdr)⟩
    ·trivial
   | clo f rs =>
    rw [hv] at hs
    obtain ⟨k1, k2⟩ := hs
    simp only [AS4]
    split
    ·rename_i hok
     refine ⟨fun x hx => ?_, fun _ vs hvs => k2 (fun x hx => ?_) vs ?_⟩
     ·obtain ⟨y, hy, rfl⟩ := List.mem_map.1 hx
      exact ⟨(k1 y hy).1, Nat.zero_le _⟩
     ·have := List.all_eq_true.1 hok x hx
      simpa [Nat.beq_eq] using this
     ·rw [← hvs, List.map_map]; rfl
    ·trivial
  ·trivial
 ·have : (AL3 keep l l 0)[i]? = none := List.getElem?_eq_none (by rw [AQ5]; omega)
  rw [this]; trivial
structure RelS (H : Nat → Option (List Value)) (σ : List SV) (a : Act) (w : World) (S : Nat → Prop) (β : Key → Option Nat) : Prop where
 len : σ.length = a.tmps.size
 rel : Rel H a.tmps.size (at? (kZ σ)) (qR a) w S β
end
end Go.Rf

end
section
namespace Go.Rf
set_option linter.unusedSectionVars false
variable [T : Laid]
section
variable {P : Program} {H : Nat → Option (List Value)} {w w' : World} {S S' : Nat → Prop} {β β' : Key → Option Nat} {a : Act} {o : Oper}
variable {E : Env} {ρ : Type}
def A0X : Ex → Exit
 | .nm => .normal
 | .ex id => .exit id
 | .ret => .ret
def Bd7 (H : Nat → Option (List Value)) (κ : Out → Option ρ) (r : ρ) (a : Act) (w : World) (S : Nat → Prop) (β : Key → Option Nat) (Q : Exit → Act → World → Prop) : Prop :=
 ∀ (o : Out) (a' : Act) (w' : World) (S' : Nat → Prop) (β' : Key → Option Nat), κ o = some r → a'.tmps.size = a.tmps.size → a'.defers = a.defers → RelS H o.σ a' w' S' β' → Step w S β w' S' β' → Q (A0X o.e) a' w'
def A15 (E : Env) (R : Run E) : Prop := ∀ {ρ : Type} (H : Nat → Option (List Value)) (mv : List Nat) (ops : List Oper) (id : Nat) (l : List Slot) (a : Act) (w : World) (S : Nat → Prop) (β : Key → Option Nat) (κ : List Slot → Option ρ) (r : ρ) (Q : Exit → Act → World → Prop),
 l.length = a.tmps.size → Rel H a.tmps.size (at? l) (qR a) w S β → (∀ o ∈ ops, opIn a.tmps.size o = true) → gQ E R mv ops true ops 0 l [] κ = some r →
 (∀ l' a' w' S' β', l'.length = a.tmps.size → κ l' = some r → a'.tmps.size = a.tmps.size → a'.defers = a.defers → Rel H a.tmps.size (at? l') (qR a') w' S' β' → Step w S β w' S' β' → Q .normal a' w') →
 (Code.region id ops.toArray true).wp E.P Q a w
def A2f (E : Env) (L : lT) : Prop := ∀ (H : Nat → Option (List Value)) (f : FuncId) (b : Code) (σ : List SV) (o : Out) (a : Act) (w : World) (S : Nat → Prop) (β : Key → Option Nat) (Q : Exit → Act → World → Prop),
 fM a.tmps.size b = true → L f b σ = some o → RelS H σ a w S β →
 (∀ a' w' S' β', a'.tmps.size = a.tmps.size → a'.defers = a.defers → RelS H o.σ a' w' S' β' → Step w S β w' S' β' → Q (A0X o.e) a' w') → (Code.loop b).wp E.P Q a w
theorem RelS.fewer {σ σ' : List SV} (hl : σ'.length = σ.length) (hf : ∀ j : Nat, σ'[j]? = σ[j]? ∨ σ'[j]? = some SV.dead) (h : RelS H σ a w S β) : RelS H σ' a w S β := by
 refine ⟨by rw [hl]; exact h.len, ?_⟩
 refine ⟨h.rel.sane, fun i => ?_⟩
 have hs := h.rel.slots i
 have hat : ∀ j, at? (kZ σ') j = at? (kZ σ) j ∨ (at? (kZ σ') j) = ⟨.dead, 0, 0, 0⟩ := fun j => by
  rw [iI, iI]
  rcases hf j with e | e
  ·left; rw [e]
  ·right; rw [e]
 have stamps : ∀ j, (at? (kZ σ) j).c = 0 ∧ (at? (kZ σ) j).s = 0 ∧ (at? (kZ σ) j).u = 0 := fun j => by
  rw [iI]; cases σ[j]? <;> exact ⟨rfl, rfl, rfl⟩
 have stamps' : ∀ j, (at? (kZ σ') j).c = 0 ∧ (at? (kZ σ') j).s = 0 ∧ (at? (kZ σ') j).u = 0 := fun j => by
  rw [iI]; cases σ'[j]? <;> exact ⟨rfl, rfl, rfl⟩
 have back : ∀ {j dr}, (at? (kZ σ') j).sv = .dat dr → at? (kZ σ') j = at? (kZ σ) j := fun {j dr} hd => by
  rcases hat j with h | h
  ·exact h
  ·rw [h] at hd; cases hd
 rcases hat i with he | he
 ·rw [he]
  cases hv : (at? (kZ σ) i).sv with
  | dead => trivial
  | nils => rw [hv] at hs; exact hs.elim
  | und => rw [hv] at hs; exact hs
  | unk => rw [hv] at hs; exact hs
  | dat d => rw [hv] at hs; exact hs
  | tup d => rw [hv] at hs; exact hs
  | adr r p c s =>
   rw [hv] at hs
   obtain ⟨k0, k1, k2, k3⟩ := hs
   rw [(stamps r).1] at k1
   rw [(stamps r).2.1] at k2
   exact ⟨k0, by omega, by omega, fun ok dr hdr => by
    have e := back hdr
    rw [Sub.okB e] at ok
    rw [e] at hdr
    exact k3 ok dr hdr⟩
  | als r p c s =>
   rw [hv] at hs
   obtain ⟨k0, k1, k2, k3⟩ := hs
   rw [(stamps r).1] at k1
   rw [(stamps r).2.1] at k2
   exact ⟨k0, by omega, by omega, fun ok dr hdr => by
    have e := back hdr
    rw [Sub.okA e] at ok
    rw [e] at hdr
    exact k3 ok dr hdr⟩
  | pend r p c s u d =>
   rw [hv] at hs
   obtain ⟨k0, k1, k2, k3, k4⟩ := hs
   rw [(stamps r).1] at k1
   rw [(stamps r).2.1] at k2
   rw [(stamps r).2.2] at k3
   exact ⟨k0, by omega, by omega, by omega, fun ok dr hdr => by
    have e := back hdr
    rw [Sub.okU e] at ok
    rw [e] at hdr
    exact k4 ok dr hdr⟩
  | clo f rs =>
   rw [hv] at hs
   obtain ⟨k1, k2⟩ := hs
   refine ⟨fun x hx => ⟨(k1 x hx).1, by have := (k1 x hx).2; rw [(stamps x.1).2.1] at this; omega⟩, fun hall vs hvs => k2 (fun x hx => ?_) vs hvs⟩
   have := hall x hx
   rw [(stamps' x.1).2.1] at this
   rw [(stamps x.1).2.1]; exact this
 ·rw [he]; trivial
theorem RelS.setdead {σ : List SV} {t : Nat} (h : RelS H σ a w S β) : RelS H (σ.set t .dead) a w S β := h.fewer (by rw [List.length_set]) fun j => by
 rw [List.getElem?_set]
 by_cases e : t = j
 ·subst e
  by_cases ht : t < σ.length
  ·right; rw [if_pos rfl, if_pos ht]
  ·left; rw [if_pos rfl, if_neg ht, List.getElem?_eq_none (by omega)]
 ·left; rw [if_neg e]
theorem Aq4 {ks rs : List Nat} : ∀ {σ : List SV} {i : Nat}, (AZ2 ks rs σ i).length = σ.length
 | [], _ => rfl
 | _ :: _, _ => by simp only [AZ2, List.length_cons, Aq4]
theorem Ao3 {ks rs : List Nat} : ∀ {σ : List SV} {i : Nat} (j : Nat), (AZ2 ks rs σ i)[j]? = σ[j]? ∨ (AZ2 ks rs σ i)[j]? = some SV.dead
 | [], _, _ => .inl rfl
 | v :: vs, i, 0 => by
  simp only [AZ2, List.getElem?_cons_zero]
  split
  ·right; rfl
  ·left; rfl
 | v :: vs, i, j + 1 => by
  simp only [AZ2, List.getElem?_cons_succ]
  exact Ao3 j
theorem RelS.killS {σ : List SV} {ks : List Nat} (h : RelS H σ a w S β) : RelS H (killS ks σ) a w S β := by
 cases ks with
 | nil => exact h
 | cons k ks => exact h.fewer Aq4 fun j => Ao3 j
theorem RelS.afterC {keep : List Nat} {σ : List SV} {t : Nat} {x : Bool} (hx : σ.getD t .dead = .dat ⟨.bool, x, .sh⟩) (h : RelS H σ a w S β) : RelS H (afterC keep t x σ) a w S β := by
 unfold Rf.afterC
 split
 ·rw [← hx]
  have e : σ.set t (σ.getD t .dead) = σ := by
   apply List.ext_getElem?
   intro i
   rw [List.getElem?_set]
   by_cases hi : t = i
   ·subst hi
    rw [if_pos rfl]
    by_cases ht : t < σ.length
    ·rw [if_pos ht, List.getD_eq_getElem?_getD, List.getElem?_eq_getElem ht]; rfl
    ·rw [if_neg ht, List.getElem?_eq_none (by omega)]
   ·rw [if_neg hi]
  rw [e]; exact h
 ·exact h.setdead
theorem oR {R : Run E} {L : lT} {f : FuncId} (hR : AM9 E R) (hD : A15 E R) (hL : A2f E L) : ∀ {c : Code} {σ : List SV} {κ : Out → Option ρ} {r : ρ} {Q : Exit → Act → World → Prop} {a : Act} {w : World} {S : Nat → Prop} {β : Key → Option Nat},
  fM a.tmps.size c = true → RelS H σ a w S β → evB E R L f c σ κ = some r → Bd7 H κ r a w S β Q → c.wp E.P Q a w
 | .skip, σ, κ, r, Q, a, w, S, β, _, h, he, hQ => wp_skip (hQ ⟨.nm, σ⟩ a w S β he rfl rfl h .refl)
 | .exit id, σ, κ, r, Q, a, w, S, β, _, h, he, hQ => wp_exit (hQ ⟨.ex id, σ⟩ a w S β he rfl rfl h .refl)
 | .ret, σ, κ, r, Q, a, w, S, β, _, h, he, hQ => wp_ret (hQ ⟨.ret, σ⟩ a w S β he rfl rfl h .refl)
 | .seq x y, σ, κ, r, Q, a, w, S, β, hd, h, he, hQ => by
  simp only [fM, Bool.and_eq_true] at hd
  simp only [evB] at he
  refine wp_seq (oR hR hD hL hd.1 h he fun o a' w' S' β' ho e1 e2 h' hst => ?_)
  obtain ⟨e, σ'⟩ := o
  cases e with
  | nm =>
   simp only [BS5] at ho
   exact oR hR hD hL (by rw [e1]; exact hd.2) h' ho fun o a'' w'' S'' β'' ho' f1 f2 h'' hst' => hQ o a'' w'' S'' β'' ho' (f1.trans e1) (f2.trans e2) h'' (hst.trans hst')
  | ex id => exact hQ ⟨.ex id, σ'⟩ a' w' S' β' ho e1 e2 h' hst
  | ret => exact hQ ⟨.ret, σ'⟩ a' w' S' β' ho e1 e2 h' hst
 | .block id b, σ, κ, r, Q, a, w, S, β, hd, h, he, hQ => by
  simp only [fM] at hd
  simp only [evB] at he
  refine wp_block (oR hR hD hL hd h he fun o a' w' S' β' ho e1 e2 h' hst => ?_)
  obtain ⟨e, σ'⟩ := o
  cases e with
  | nm => exact hQ ⟨.nm, σ'⟩ a' w' S' β' ho e1 e2 h' hst
  | ex j =>
   simp only [AO2] at ho
   split at ho
   ·rename_i hj
    have hj : j = id := by simpa [Nat.beq_eq] using hj
    subst hj
    have := hQ ⟨.nm, σ'⟩ a' w' S' β' ho e1 e2 h' hst
    simpa [Exit.inBlock, A0X] using this
   ·rename_i hj
    have hj : ¬ j = id := by simpa [Nat.beq_eq] using hj
    have := hQ ⟨.ex j, σ'⟩ a' w' S' β' ho e1 e2 h' hst
    simp only [Exit.inBlock, A0X]
    rw [if_neg hj]; exact this
  | ret => exact hQ ⟨.ret, σ'⟩ a' w' S' β' ho e1 e2 h' hst
 | .cond c x y, σ, κ, r, Q, a, w, S, β, hd, h, he, hQ => by
  simp only [fM, Bool.and_eq_true] at hd
  simp only [evB] at he
  split at he
  ·rename_i t
   split at he
   ·rename_i b hb
    have hv : (at? (kZ σ) t).sv = .dat ⟨.bool, b, .sh⟩ := by
     rw [iI]
     rw [List.getD] at hb
     cases hσ : σ[t]? with
     | none => rw [hσ] at hb; cases hb
     | some v => rw [hσ] at hb; exact hb
    have hc := zJ (AU5 (x := .tmp t) h.rel (show sv (at? (kZ σ)) (.tmp t) = _ from hv) iT)
    cases b with
    | true =>
     simp only [cond_true] at he
     exact wp_cond_true hc (oR hR hD hL hd.1 (h.afterC hb) he hQ)
    | false =>
     simp only [cond_false] at he
     exact wp_cond_false hc (oR hR hD hL hd.2 (h.afterC hb) he hQ)
   ·rename_i hb
    split at he
    ·obtain ⟨he1, he2⟩ := AW0 he
     have hv : (at? (kZ σ) t).sv = .unk := by
      rw [iI]
      rw [List.getD] at hb
      cases hσ : σ[t]? with
      | none => rw [hσ] at hb; cases hb
      | some v => rw [hσ] at hb; exact hb
     have hs := h.rel.slots t
     rw [hv] at hs
     obtain ⟨b, hs⟩ := hs
     have hc : a.eval (.tmp t) = .bool b := zJ hs
     cases b with
     | true => exact wp_cond_true hc (oR hR hD hL hd.1 h.setdead he1 hQ)
     | false => exact wp_cond_false hc (oR hR hD hL hd.2 h.setdead he2 hQ)
    ·cases he
   ·cases he
  ·rename_i b
   cases b with
   | true => exact wp_cond_true rfl (oR hR hD hL hd.1 h he hQ)
   | false => exact wp_cond_false rfl (oR hR hD hL hd.2 h he hQ)
  ·cases he
 | .loop b, σ, κ, r, Q, a, w, S, β, hd, h, he, hQ => by
  simp only [fM] at hd
  simp only [evB, A0L] at he
  obtain ⟨o, h1, h2⟩ := Option.bind_eq_some_iff.1 he
  exact hL H f b _ o a w S β Q hd h1 h.killS fun a' w' S' β' e1 e2 h' hst => hQ o a' w' S' β' h2 e1 e2 h' hst
 | .region id ops draw, σ, κ, r, Q, a, w, S, β, hd, h, he, hQ => by
  simp only [fM] at hd
  simp only [evB, Af2] at he
  have hin : ∀ o ∈ ops.toList, opIn a.tmps.size o = true := fun o ho => List.all_eq_true.1 hd o ho
  have hl : (kZ σ).length = a.tmps.size := by simp [kZ, h.len]
  have fin : ∀ l' a' w' S' β', l'.length = a.tmps.size → κ ⟨.nm, AL3 (E.cfg f).keep l' l' 0⟩ = some r → a'.tmps.size = a.tmps.size → a'.defers = a.defers → Rel H a.tmps.size (at? l') (qR a') w' S' β' → Step w S β w' S' β' → Q .normal a' w' :=
   fun l' a' w' S' β' e0 hk e1 e2 h' hst => hQ ⟨.nm, AL3 (E.cfg f).keep l' l' 0⟩ a' w' S' β' hk e1 e2 ⟨by rw [AQ5, e0, e1], by rw [e1]; exact A7d h' e0⟩ hst
  cases draw with
  | false => exact wp_region_list (by
    have := aE hR (all := ops.toList) hl h.rel hin he fin
    simpa using this)
  | true =>
   have := hD H (Bf5 (E.cfg f) id) ops.toList id (kZ σ) a w S β _ r Q hl h.rel hin he fin
   simpa using this
end
end Go.Rf

end
section
namespace Go.Rf
set_option linter.unusedSectionVars false
variable [T : Laid]
def AZ4 (P : Program) (c : Code) (Q : Exit → Act → World → Prop) (a : Act) (w : World) : Prop :=
 ∀ (b : Frame) (k : List Item) (cs : List Frame), ∃ e a' w', Q e a' w' ∧ Arrives P (lone (b.at a (.code c :: .inLoop c :: k)) cs w) b k cs e a' w'
theorem AZ4.wp {P : Program} {c : Code} {Q : Exit → Act → World → Prop} {a : Act} {w : World} (h : AZ4 P c Q a w) : (Code.loop c).wp P Q a w := by
 intro b k cs
 obtain ⟨e, a', w', hq, harr⟩ := h b k cs
 exact ⟨e, a', w', hq, .of_steps (.one step_loop) harr⟩
theorem AZ4.round {P : Program} {c : Code} {Q : Exit → Act → World → Prop} {a : Act} {w : World} (h : c.wp P (Exit.then (AZ4 P c Q) Q) a w) : AZ4 P c Q a w := by
 intro b k cs
 obtain ⟨e, a₁, w₁, hq, harr⟩ := h b (.inLoop c :: k) cs
 cases e with
 | normal =>
  obtain ⟨e₂, a₂, w₂, hq₂, harr₂⟩ := (hq : AZ4 P c Q a₁ w₁) b k cs
  exact ⟨e₂, a₂, w₂, hq₂, .of_steps (Steps.trans harr (.one step_inLoop)) harr₂⟩
 | exit id => exact ⟨_, a₁, w₁, hq, .pass (x := .inLoop c) rfl (fun _ _ => .inl (by simp)) harr⟩
 | goto l => exact ⟨_, a₁, w₁, hq, .pass (x := .inLoop c) rfl (fun _ _ => .inl (by simp)) harr⟩
 | ret => exact ⟨_, a₁, w₁, hq, .pass (x := .inLoop c) rfl (fun _ _ => .inl (by simp)) harr⟩
 | panic ch => exact ⟨_, a₁, w₁, hq, .pass (x := .inLoop c) rfl (fun _ _ => .inl (by simp)) harr⟩
 | outgrown => exact ⟨_, a₁, w₁, hq, .pass (x := .inLoop c) rfl (fun _ _ => .inl (by simp)) harr⟩
section
variable {E : Env} {X : (f : FuncId) → Option (List Dyn → Option (E.cfg f).rt.D)}
def Ae3 (E : Env) (L : lT) : Prop := ∀ (H : Nat → Option (List Value)) (f : FuncId) (b : Code) (σ : List SV) (o : Out) (a : Act) (w : World) (S : Nat → Prop) (β : Key → Option Nat) (Q : Exit → Act → World → Prop),
 fM a.tmps.size b = true → L f b σ = some o → RelS H σ a w S β →
 (∀ a' w' S' β', a'.tmps.size = a.tmps.size → a'.defers = a.defers → RelS H o.σ a' w' S' β' → Step w S β w' S' β' → Q (A0X o.e) a' w') → AZ4 E.P b Q a w
theorem Ae3.ok {L : lT} (h : Ae3 E L) : A2f E L := fun H f b σ o a w S β Q hd hl hr hQ => (h H f b σ o a w S β Q hd hl hr hQ).wp
end
end Go.Rf

end
section
namespace Go.Rf
set_option linter.unusedSectionVars false
variable [T : Laid]
section
variable {E : Env} {R : Run E} {ρ : Type}
def A8w (all : List Oper) (o : Oper) (l : List Slot) (gs : List Nat) : Prop :=
 (o.guard = none ∧ gs = []) ∨ ∃ j want g, o.guard = some (j, want) ∧ (all[j]?).bind Oper.dst = some g ∧ gs = [g] ∧ (at? l g).sv = .dat ⟨.bool, want, .sh⟩
def A6r (E : Env) (R : Run E) (mv : List Nat) (all : List Oper) (i : Nat) (o : Oper) (l : List Slot) (us : List Up) (rc : Rec) : Prop :=
  rc.wr = us.map Up.slot ∧ (∀ x, x ∈ AB7 l us → x ∈ rc.bad) ∧ (∀ x, x ∈ rc.tw → x ∈ us.map Up.slot) ∧ (∀ x, x ∈ us.map Up.slot → x ∈ rc.tw ∨ BS3 o x = true) ∧
  ((opK E R (mv.any (Nat.beq i ·)) (sG l (Ak0 o l)) o some = some us ∧ ∃ gs, A8w all o l gs ∧ (rc.fp = gs ++ Ak0 o l ∨
      (rc.fp = gs ∧ ∃ x s, o.op = .move x ∧ AL1 (at? l) (mv.any (Nat.beq i ·)) x = some s ∧ rc.sf = [s]) ∨
      (rc.fp = gs ∧ ∃ s, AQ2 l o = [s] ∧ rc.ts = [s]))) ∨
   (∃ j want g, o.guard = some (j, want) ∧ (all[j]?).bind Oper.dst = some g ∧ rc.fp = [g] ∧ ((at? l g).sv = .und ∨ (at? l g).sv = .dat ⟨.bool, !want, .sh⟩) ∧
      us = (match o.dst with | some d => [.put d .und] | none => [])))
theorem A6N {E : Env} {R : Run E} {mv : List Nat} {all : List Oper} {i : Nat} {o : Oper} {l : List Slot} {us : List Up} {gs : List Nat} (h : opK E R (mv.any (Nat.beq i ·)) (sG l (Ak0 o l)) o some = some us) (hg : A8w all o l gs) :
  A6r E R mv all i o l us (AR9 (mv.any (Nat.beq i ·)) gs l o us) := by
 have key : A4B (mv.any (Nat.beq i ·)) l o = [] ∨ ∃ x s, o.op = .move x ∧ AL1 (at? l) (mv.any (Nat.beq i ·)) x = some s ∧ A4B (mv.any (Nat.beq i ·)) l o = [s] := by
  unfold A4B
  split
  ·rename_i x hx
   cases e : AL1 (at? l) (mv.any (Nat.beq i ·)) x with
   | some s => exact .inr ⟨x, s, hx, e, rfl⟩
   | none => exact .inl rfl
  ·exact .inl rfl
 have h1 : ∀ x, x ∈ Bb7 o us → x ∈ us.map Up.slot := fun x hx => (List.mem_filter.1 hx).1
 have h2 : ∀ x, x ∈ us.map Up.slot → x ∈ Bb7 o us ∨ BS3 o x = true := fun x hx => by
  cases e : BS3 o x with
  | true => exact .inr rfl
  | false => exact .inl (List.mem_filter.2 ⟨hx, by rw [e]; rfl⟩)
 have h3 : AQ2 l o = [] ∨ ∃ s, AQ2 l o = [s] := by
  unfold AQ2
  (repeat' split) <;> first | exact .inl rfl | exact .inr ⟨_, rfl⟩
 unfold AR9
 rcases key with e | ⟨x, s, h4, h5, e⟩
 ·rw [e]
  simp only
  rcases h3 with e3 | ⟨s, e3⟩
  ·rw [e3]; exact ⟨rfl, fun _ h => h, h1, h2, .inl ⟨h, gs, hg, .inl rfl⟩⟩
  ·rw [e3]; exact ⟨rfl, fun _ h => h, h1, h2, .inl ⟨h, gs, hg, .inr (.inr ⟨rfl, s, e3, rfl⟩)⟩⟩
 ·rw [e]; exact ⟨rfl, fun _ h => h, h1, h2, .inl ⟨h, gs, hg, .inr (.inl ⟨rfl, x, s, h4, h5, rfl⟩)⟩⟩
theorem mQ : ∀ {us vs : List Up} {l : List Slot}, mL l (us ++ vs) = mL (mL l us) vs
 | [], _, _ => rfl
 | u :: us, vs, l => by simp only [List.cons_append, mL]; exact mQ
def A4E (E : Env) (R : Run E) (mv : List Nat) (all : List Oper) (κ : List Slot → Option ρ) (r : ρ) (os : List Oper) (i : Nat) (l : List Slot) (acc : List Rec) : Prop :=
 ∃ (uss : List (List Up)) (rcs : List Rec), uss.length = os.length ∧ rcs.length = os.length ∧ κ (mL l uss.flatten) = some r ∧ (A09 (AQ4 all) (acc ++ rcs) 0 = true ∧ A9e (acc ++ rcs) = true) ∧ AE1 all 0 = true ∧
  ∀ (j : Nat) (o : Oper) (us : List Up) (rc : Rec), os[j]? = some o → uss[j]? = some us → rcs[j]? = some rc → A6r E R mv all (i + j) o (mL l (uss.take j).flatten) us rc
theorem An7 {mv : List Nat} {all : List Oper} {κ : List Slot → Option ρ} {r : ρ} : ∀ {os : List Oper} {i : Nat} {l : List Slot} {acc : List Rec}, gQ E R mv all true os i l acc κ = some r → A4E E R mv all κ r os i l acc
 | [], i, l, acc, h => by
  simp only [gQ, if_true] at h
  split at h
  ·rename_i hc
   simp only [Bool.and_eq_true] at hc
   exact ⟨[], [], rfl, rfl, h, ⟨by simpa using hc.1.1, by simpa using hc.1.2⟩, hc.2, by simp⟩
  ·cases h
 | o :: os, i, l, acc, h => by
  have step : ∀ {us : List Up} {rc : Rec}, A6r E R mv all i o l us rc → gQ E R mv all true os (i + 1) (mL l us) (acc ++ [rc]) κ = some r →
    A4E E R mv all κ r (o :: os) i l acc := by
   intro us rc hs hk
   obtain ⟨uss, rcs, h1, h2, h3, h4, h5, h6⟩ := An7 hk
   refine ⟨us :: uss, rc :: rcs, by simp [h1], by simp [h2], by simpa [mQ] using h3, by simpa using h4, h5, fun j o' us' rc' e1 e2 e3 => ?_⟩
   cases j with
   | zero =>
    simp only [List.getElem?_cons_zero, Option.some.injEq] at e1 e2 e3
    subst e1; subst e2; subst e3
    simpa [mL] using hs
   | succ j =>
    have := h6 j o' us' rc' (by simpa using e1) (by simpa using e2) (by simpa using e3)
    rw [show i + 1 + j = i + (j + 1) by omega] at this
    simpa [mQ] using this
  have hgo : ∀ {gs : List Nat}, ((o.guard = none ∧ gs = []) ∨ ∃ j want g, o.guard = some (j, want) ∧ (all[j]?).bind Oper.dst = some g ∧ gs = [g] ∧ (at? l g).sv = .dat ⟨.bool, want, .sh⟩) →
    opK E R (mv.any (Nat.beq i ·)) (sG l (Ak0 o l)) o (fun us => gQ E R mv all true os (i + 1) (mL l us) (acc ++ [AR9 (mv.any (Nat.beq i ·)) gs l o us]) κ) = some r → A4E E R mv all κ r (o :: os) i l acc := by
   intro gs hg hk
   rw [aA] at hk
   obtain ⟨us, e1, e2⟩ := Option.bind_eq_some_iff.1 hk
   exact step (us := us) (rc := AR9 (mv.any (Nat.beq i ·)) gs l o us) (A6N e1 hg) e2
  have hskip : ∀ {j : Nat} {want : Bool} {g : Nat}, o.guard = some (j, want) → (all[j]?).bind Oper.dst = some g → ((at? l g).sv = .und ∨ (at? l g).sv = .dat ⟨.bool, !want, .sh⟩) →
    (match o.dst with
     | some d => gQ E R mv all true os (i + 1) (upL l (.put d .und)) (acc ++ [⟨[g], [d], [], [d], [], [d]⟩]) κ
     | none => gQ E R mv all true os (i + 1) l (acc ++ [⟨[g], [], [], [], [], []⟩]) κ) = some r → A4E E R mv all κ r (o :: os) i l acc := by
   intro j want g h1 h2 h3 hk
   have bad1 : ∀ {d : Nat}, ∀ x, x ∈ AB7 l [.put d .und] → x ∈ [d] := fun {d} x hx => (List.mem_filter.1 hx).1
   cases hd : o.dst with
   | some d =>
    rw [hd] at hk
    exact step (us := [.put d .und]) (rc := ⟨[g], [d], [], [d], [], [d]⟩) ⟨rfl, bad1, fun _ h => h, fun _ h => .inl h, .inr ⟨j, want, g, h1, h2, rfl, h3, by rw [hd]⟩⟩ hk
   | none =>
    rw [hd] at hk
    exact step (us := []) (rc := ⟨[g], [], [], [], [], []⟩) ⟨rfl, fun _ h => h, fun _ h => h, fun _ h => .inl h, .inr ⟨j, want, g, h1, h2, rfl, h3, by rw [hd]⟩⟩ hk
  unfold gQ at h
  simp only at h
  split at h
  ·rename_i hg
   exact hgo (gs := []) (.inl ⟨hg, rfl⟩) h
  ·rename_i j want hg
   split at h
   ·cases h
   ·rename_i g hgd
    split at h
    ·rename_i t hv
     cases t with
     | true =>
      simp only [cond_true] at h
      rw [AF3 hv] at h
      cases want with
      | true => exact hgo (gs := [g]) (.inr ⟨j, true, g, hg, hgd, rfl, hv⟩) h
      | false => exact hskip hg hgd (.inr hv) h
     | false =>
      simp only [cond_false] at h
      rw [AF3 hv] at h
      cases want with
      | true => exact hskip hg hgd (.inr hv) h
      | false => exact hgo (gs := [g]) (.inr ⟨j, false, g, hg, hgd, rfl, hv⟩) h
    ·rename_i hv
     exact hskip hg hgd (.inl hv) h
    ·cases h
end
end Go.Rf

end
section
namespace Go.Rf
set_option linter.unusedSectionVars false
variable [T : Laid]
def mP (x : Nat) (s : Slot) : List Up → Slot
 | [] => s
 | u :: us => mP x (if x = u.slot then u.on s else s) us
theorem lB {x : Nat} : ∀ {us vs : List Up} {s : Slot}, mP x s (us ++ vs) = mP x (mP x s us) vs
 | [], _, _ => rfl
 | u :: us, vs, s => by simp only [List.cons_append, mP]; exact lB
theorem jD {x : Nat} : ∀ {us : List Up} {s : Slot}, (∀ u ∈ us, u.slot ≠ x) → mP x s us = s
 | [], _, _ => rfl
 | u :: us, s, h => by
  simp only [mP]
  rw [if_neg (fun e => h u (by simp) e.symm)]
  exact jD fun v hv => h v (by simp [hv])
theorem lR {x : Nat} : ∀ {us : List Up} {l : List Slot}, x < l.length → at? (mL l us) x = mP x (at? l x) us
 | [], _, _ => rfl
 | u :: us, l, h => by
  simp only [mL, mP]
  rw [lR (by rw [AS9]; exact h), A76 h]
  by_cases e : x = u.slot
  ·subst e; rw [oH, if_pos rfl]
  ·rw [rI e, if_neg e]
def sel (L : Nat → Bool) : List (List Up) → Nat → List Up
 | [], _ => []
 | us :: r, k => (if L k then us else []) ++ sel L r (k + 1)
theorem AP4 {x : Nat} {L M : Nat → Bool} : ∀ {uss : List (List Up)} {k : Nat} {s : Slot}, (∀ j us, uss[j]? = some us → (∃ u ∈ us, u.slot = x) → L (k + j) = M (k + j)) → mP x s (sel L uss k) = mP x s (sel M uss k)
 | [], _, _, _ => rfl
 | us :: r, k, s, h => by
  simp only [sel]
  rw [lB, lB]
  have h0 : mP x s (if L k then us else []) = mP x s (if M k then us else []) := by
   by_cases hx : ∃ u ∈ us, u.slot = x
   ·have := h 0 us rfl hx
    rw [Nat.add_zero] at this
    rw [this]
   ·have hn : ∀ u ∈ us, u.slot ≠ x := fun u hu e => hx ⟨u, hu, e⟩
    split <;> split <;> first | rfl | (rw [jD hn]; rfl)
  rw [h0]
  exact AP4 fun j us' hj hx => by
   have := h (j + 1) us' (by simpa using hj) hx
   rw [show k + (j + 1) = k + 1 + j by omega] at this
   exact this
theorem Aw7 {i : Nat} : ∀ {uss : List (List Up)} {k : Nat}, sel (fun j => decide (j < k + i)) uss k = (uss.take i).flatten := by
 induction i with
 | zero =>
  intro uss
  have : ∀ (uss : List (List Up)) (k m : Nat), m ≤ k → sel (fun j => decide (j < m)) uss k = [] := by
   intro uss
   induction uss with
   | nil => intro k m _; rfl
   | cons us r ih => intro k m h; simp only [sel]; rw [if_neg (by simp; omega), ih (k + 1) m (by omega)]; rfl
  intro k; simpa using this uss k k (Nat.le_refl _)
 | succ i ih =>
  intro uss k
  cases uss with
  | nil => rfl
  | cons us r =>
   simp only [sel, List.take_succ_cons, List.flatten_cons]
   rw [if_pos (by simp)]
   have := ih (uss := r) (k := k + 1)
   rw [show k + 1 + i = k + (i + 1) by omega] at this
   rw [this]
end Go.Rf

end
section
namespace Go.Rf
set_option linter.unusedSectionVars false
variable [T : Laid]
theorem cE {a b : List Nat} : A19 a b = true ↔ ∃ x, x ∈ a ∧ x ∈ b := by
 simp only [A19, List.any_eq_true, Nat.beq_eq]
 constructor
 ·rintro ⟨x, hx, y, hy, e⟩; exact ⟨x, hx, e ▸ hy⟩
 ·rintro ⟨x, hx, hy⟩; exact ⟨x, hx, x, hy, rfl⟩
def Bd5 (r q : Rec) : Prop := (∀ x, x ∈ r.wr → x ∉ q.fp) ∧ (∀ x, x ∈ r.wr → x ∉ q.wr) ∧ (∀ x, x ∈ q.wr → x ∉ r.fp) ∧ (∀ x, x ∈ r.tw → x ∉ q.ts) ∧ ∀ x, x ∈ q.tw → x ∉ r.ts
theorem A4f {b : List Nat} {r : Rec} {i : Nat} : ∀ {qs : List Rec} {j : Nat}, A09.go b r i qs j = true → ∀ k q, qs[k]? = some q → Nat.testBit (b.getD (j + k) 0) i = true ∨ Bd5 r q
 | [], _, _, _, _, h => by simp at h
 | q :: qs, j, h, k, q', hk => by
  simp only [A09.go, Bool.and_eq_true] at h
  cases k with
  | zero =>
   simp only [List.getElem?_cons_zero, Option.some.injEq] at hk; subst hk
   have h1 := h.1
   simp only [Bool.or_eq_true, Bool.and_eq_true, Bool.not_eq_true'] at h1
   rcases h1 with h1 | ⟨⟨⟨⟨h1, h2⟩, h3⟩, h4⟩, h5⟩
   ·exact .inl h1
   ·refine .inr ⟨fun x hx hy => ?_, fun x hx hy => ?_, fun x hx hy => ?_, fun x hx hy => ?_, fun x hx hy => ?_⟩
    ·rw [cE.2 ⟨x, hx, hy⟩] at h1; cases h1
    ·rw [cE.2 ⟨x, hx, hy⟩] at h2; cases h2
    ·rw [cE.2 ⟨x, hx, hy⟩] at h3; cases h3
    ·rw [cE.2 ⟨x, hx, hy⟩] at h4; cases h4
    ·rw [cE.2 ⟨x, hx, hy⟩] at h5; cases h5
  | succ k =>
   have := A4f h.2 k q' (by simpa using hk)
   rw [show j + 1 + k = j + (k + 1) by omega] at this
   exact this
theorem Aq3 {b : List Nat} : ∀ {rs : List Rec} {m : Nat}, A09 b rs m = true → ∀ i j r q, i < j → rs[i]? = some r → rs[j]? = some q → Nat.testBit (b.getD (m + j) 0) (m + i) = true ∨ Bd5 r q
 | [], _, _, _, _, _, _, _, h, _ => by simp at h
 | r0 :: rs, m, h, i, j, r, q, hij, hi, hj => by
  simp only [A09, Bool.and_eq_true] at h
  cases j with
  | zero => omega
  | succ j =>
   cases i with
   | zero =>
    simp only [List.getElem?_cons_zero, Option.some.injEq] at hi; subst hi
    have := A4f h.1 j q (by simpa using hj)
    rw [show m + 1 + j = m + (j + 1) by omega] at this
    simpa using this
   | succ i =>
    have := Aq3 h.2 i j r q (by omega) (by simpa using hi) (by simpa using hj)
    rw [show m + 1 + j = m + (j + 1) by omega, show m + 1 + i = m + (i + 1) by omega] at this
    exact this
end Go.Rf

end
section
namespace Go.Rf
set_option linter.unusedSectionVars false
variable [T : Laid]
def AN3 (acc : Array Nat) (o : Oper) : Array Nat := acc.push (o.after.foldl (fun s e => if Region.binds .any e then s ||| 2 ^ e.on ||| acc.getD e.on 0 else s) 0)
theorem AU2 : ∀ {os : List Oper} {acc : Array Nat} {k : Nat}, k < acc.size → (os.foldl AN3 acc).getD k 0 = acc.getD k 0
 | [], _, _, _ => rfl
 | o :: os, acc, k, h => by
  simp only [List.foldl_cons]
  rw [AU2 (by simp [AN3]; omega)]
  simp [AN3, Array.getD_eq_getD_getElem?, Array.getElem?_push, Nat.ne_of_lt h]
theorem A1t : ∀ {os : List Oper} {acc : Array Nat} {i : Nat} {o : Oper}, os[i]? = some o → ∃ pre : Array Nat, pre.size = acc.size + i ∧ (∀ k, k < pre.size → pre.getD k 0 = (os.foldl AN3 acc).getD k 0) ∧
  (os.foldl AN3 acc).getD (acc.size + i) 0 = o.after.foldl (fun s e => if Region.binds .any e then s ||| 2 ^ e.on ||| pre.getD e.on 0 else s) 0
 | [], _, _, _, h => by simp at h
 | o' :: os, acc, i, o, h => by
  cases i with
  | zero =>
   simp only [List.getElem?_cons_zero, Option.some.injEq] at h; subst h
   refine ⟨acc, rfl, fun k hk => ?_, ?_⟩
   ·simp only [List.foldl_cons]
    rw [AU2 (by simp [AN3]; omega)]
    simp [AN3, Array.getD_eq_getD_getElem?, Array.getElem?_push, Nat.ne_of_lt hk]
   ·simp only [List.foldl_cons, Nat.add_zero]
    rw [AU2 (by simp [AN3])]
    simp [AN3, Array.getD_eq_getD_getElem?]
  | succ i =>
   obtain ⟨pre, h1, h2, h3⟩ := A1t (acc := AN3 acc o') (i := i) (by simpa using h)
   have hs : (AN3 acc o').size = acc.size + 1 := by simp [AN3]
   refine ⟨pre, by rw [h1, hs]; omega, h2, ?_⟩
   simp only [List.foldl_cons]
   rw [show acc.size + (i + 1) = (AN3 acc o').size + i by rw [hs]; omega]
   exact h3
theorem A0k {f : Edge → Nat} {m : Nat} : ∀ {es : List Edge} {s : Nat}, Nat.testBit (es.foldl (fun s e => if Region.binds .any e then s ||| 2 ^ e.on ||| f e else s) s) m = true →
  Nat.testBit s m = true ∨ ∃ e ∈ es, Region.binds .any e = true ∧ (e.on = m ∨ Nat.testBit (f e) m = true)
 | [], s, h => .inl h
 | e :: es, s, h => by
  simp only [List.foldl_cons] at h
  rcases A0k h with h | ⟨e', h1, h2⟩
  ·split at h
   ·rename_i hb
    simp only [Nat.testBit_or, Bool.or_eq_true, Nat.testBit_two_pow, decide_eq_true_eq] at h
    rcases h with (h | h) | h
    ·exact .inl h
    ·exact .inr ⟨e, by simp, hb, .inl h⟩
    ·exact .inr ⟨e, by simp, hb, .inr h⟩
   ·exact .inl h
  ·exact .inr ⟨e', by simp [h1], h2⟩
theorem A0K : ∀ {os : List Oper} {m i : Nat} {o : Oper} {e : Edge}, AE1 os m = true → os[i]? = some o → e ∈ o.after.toList → Region.binds .any e = true → e.on < m + i
 | [], _, _, _, _, _, h, _, _ => by simp at h
 | o' :: os, m, i, o, e, h, hi, he, hb => by
  simp only [AE1, Bool.and_eq_true] at h
  cases i with
  | zero =>
   simp only [List.getElem?_cons_zero, Option.some.injEq] at hi; subst hi
   have := List.all_eq_true.1 h.1 e he
   simpa [Nat.blt_eq, hb] using this
  | succ i => have := A0K h.2 (by simpa using hi) he hb; omega
theorem A5U {ops : List Oper} {i m : Nat} {o : Oper} (he : AE1 ops 0 = true) (hi : ops[i]? = some o) (h : Nat.testBit ((AQ4 ops).getD i 0) m = true) :
  ∃ e ∈ o.after.toList, Region.binds .any e = true ∧ e.on < i ∧ (e.on = m ∨ Nat.testBit ((AQ4 ops).getD e.on 0) m = true) := by
 have hb : ∀ k, (AQ4 ops).getD k 0 = (ops.foldl AN3 #[]).getD k 0 := fun k => by
  unfold AQ4 Region.before
  have : (ops.toArray.foldl (fun acc o => acc.push (o.after.foldl (fun s e => if Region.binds .any e then s ||| 2 ^ e.on ||| acc.getD e.on 0 else s) 0)) #[]) = ops.foldl AN3 #[] := by
   rw [← Array.foldl_toList]; rfl
  rw [this]
  simp [List.getD, Array.getD_eq_getD_getElem?]
 rw [hb] at h
 obtain ⟨pre, h1, h2, h3⟩ := A1t (acc := #[]) hi
 simp only [List.size_toArray, List.length_nil, Nat.zero_add] at h1 h3
 rw [h3, ← Array.foldl_toList] at h
 rcases A0k h with h | ⟨e, e1, e2, e3⟩
 ·simp at h
 ·have hlt := A0K he hi e1 e2
  rw [Nat.zero_add] at hlt
  refine ⟨e, e1, e2, hlt, e3.imp id fun h => ?_⟩
  rw [hb, ← h2 e.on (by omega)]; exact h
end Go.Rf

end
section
namespace Go.Rf
set_option linter.unusedSectionVars false
variable [T : Laid]
def cf : List Bool → Nat
 | [] => 0
 | b :: l => (if b then 0 else 1) + cf l
theorem BE8 : ∀ {l : List Bool} {i : Nat}, l[i]? = some false → cf (l.set i true) + 1 = cf l
 | [], _, h => by simp at h
 | b :: l, 0, h => by simp only [List.getElem?_cons_zero, Option.some.injEq] at h; subst h; simp [cf]; omega
 | b :: l, i + 1, h => by simp only [List.set_cons_succ, cf]; have := BE8 (l := l) (i := i) (by simpa using h); omega
theorem A6q : ∀ {l : List Bool} {i : Nat}, cf l = 0 → l[i]? ≠ some false
 | [], _, _ => by simp
 | b :: l, 0, h => by
  simp only [cf] at h
  simp only [List.getElem?_cons_zero, ne_eq, Option.some.injEq]
  intro e; subst e; simp at h
 | b :: l, i + 1, h => by
  simp only [cf] at h
  simpa using A6q (l := l) (i := i) (by omega)
theorem A8J {L : Nat → Bool} : ∀ {uss : List (List Up)} {k : Nat}, (∀ j, j < uss.length → L (k + j) = true) → sel L uss k = uss.flatten
 | [], _, _ => rfl
 | us :: r, k, h => by
  simp only [sel, List.flatten_cons]
  rw [if_pos (by simpa using h 0 (by simp)), A8J fun j hj => by
   have := h (j + 1) (by simp; omega)
   rw [show k + (j + 1) = k + 1 + j by omega] at this
   exact this]
section
variable {P : Program} {H : Nat → Option (List Value)} {N : Nat} {g : zY} {V : Nat → Option Value} {w w' : World} {S S' : Nat → Prop} {β β' : Key → Option Nat} {a : Act}
variable {E : Env} {R : Run E}
theorem Rel.heap (h : Rel H N g V w S β) (hw : w'.heap = w.heap) (hD : yH N g) : Rel H N g V w' S β := by
 have h1 : Rel H N (g.up (.put N .dead)) V w' S β := h.put ⟨h.sane.inj, h.sane.sep, fun k b hk => by rw [hw]; exact h.sane.live k b hk, fun b hk => by rw [hw]; exact h.sane.liveS b hk, h.sane.tabs fun b hb => ⟨hb, by rw [hw]⟩⟩
  (fun b hb => ⟨hb, by rw [hw]⟩) (fun _ _ _ _ _ hb => ⟨hb, by rw [hw]⟩) (fun _ _ => rfl) trivial
 exact h1.fin (fun i hi => (rP (by omega)).symm) hD (fun _ _ => rfl)
theorem A5M {l l' : List Slot} {fp : List Nat} (h : ∀ x ∈ fp, at? l x = at? l' x) : sG l fp = sG l' fp := by
 funext i
 unfold sG
 by_cases hi : (fp.any (Nat.beq i ·)) = true
 ·rw [if_pos hi, if_pos hi]
  obtain ⟨x, hx, e⟩ := List.any_eq_true.1 hi
  have : i = x := by simpa [Nat.beq_eq] using e
  rw [this]; exact h x hx
 ·rw [if_neg hi, if_neg hi]
theorem Af4 {ops : List Oper} {listed : Array Bool} {i : Nat} : i ∈ Region.ready .any ops.toArray listed ↔ ∃ o, ops[i]? = some o ∧ listed.getD i true = false ∧ ∀ e ∈ o.after.toList, Region.binds .any e = true → listed.getD e.on false = true := by
 unfold Region.ready
 rw [List.mem_filter, List.mem_range]
 constructor
 ·rintro ⟨h1, h2⟩
  have h1 : i < ops.length := by simpa using h1
  simp only [List.getElem?_toArray, List.getElem?_eq_getElem h1, Option.map_some, Option.getD_some, Bool.and_eq_true, Bool.not_eq_true'] at h2
  refine ⟨_, List.getElem?_eq_getElem h1, h2.1, fun e he hb => ?_⟩
  have h3 := h2.2
  rw [← Array.all_toList] at h3
  have := List.all_eq_true.1 h3 e he
  rw [hb] at this
  simpa using this
 ·rintro ⟨o, h1, h2, h3⟩
  have hl : i < ops.length := (List.getElem?_eq_some_iff.1 h1).1
  refine ⟨by simpa using hl, ?_⟩
  simp only [List.getElem?_toArray, h1, Option.map_some, Option.getD_some, Bool.and_eq_true, Bool.not_eq_true']
  refine ⟨h2, ?_⟩
  rw [← Array.all_toList]
  refine List.all_eq_true.2 fun e he => ?_
  cases hb : Region.binds .any e with
  | true => simp [h3 e he hb]
  | false => rfl
theorem A4w {listed : Array Bool} {i : Nat} (h : listed.getD i true = false) : i < listed.size ∧ listed.getD i false = false := by
 rw [Array.getD_eq_getD_getElem?] at h ⊢
 cases hb : listed[i]? with
 | none => rw [hb] at h; simp at h
 | some b =>
  rw [hb] at h
  simp only [Option.getD_some] at h
  exact ⟨(Array.getElem?_eq_some_iff.1 hb).1, by simp [h]⟩
theorem A5W {listed : Array Bool} {i : Nat} (hi : i < listed.size) (h : listed.getD i false = false) : listed.getD i true = false := by
 rw [Array.getD_eq_getD_getElem?, Array.getElem?_eq_getElem hi] at h ⊢
 exact h
theorem Av4 {listed : Array Bool} {i j : Nat} (hi : i < listed.size) : (listed.setIfInBounds i true).getD j false = (decide (j = i) || listed.getD j false) := by
 rw [Array.getD_eq_getD_getElem?, Array.getD_eq_getD_getElem?, Array.getElem?_setIfInBounds]
 by_cases e : i = j
 ·subst e; simp [hi]
 ·simp [e, Ne.symm e]
theorem A8L {ops : List Oper} {listed : Array Bool} (hs : listed.size = ops.length) (he : AE1 ops 0 = true) (h : Region.ready .any ops.toArray listed = []) : ∀ i, i < ops.length → listed.getD i false = true := by
 intro i
 induction i using Nat.strongRecOn with
 | ind i ih =>
  intro hi
  cases hb : listed.getD i false with
  | true => rfl
  | false =>
   have : i ∈ Region.ready .any ops.toArray listed := Af4.2 ⟨ops[i], List.getElem?_eq_getElem hi, A5W (by omega) hb, fun e h1 hbd => by
    have := A0K he (List.getElem?_eq_getElem hi) h1 hbd
    exact ih e.on (by omega) (by omega)⟩
   rw [h] at this; cases this
theorem A25 {uss : List (List Up)} {rcs : List Rec} {L : Nat → Bool} {b : List Nat} {i : Nat} {rc : Rec} (hn : uss.length = rcs.length) (hw : ∀ (j : Nat) us q, uss[j]? = some us → rcs[j]? = some q → q.wr = us.map Up.slot)
  (hsp : ∀ i j r q, i < j → rcs[i]? = some r → rcs[j]? = some q → Nat.testBit (b.getD j 0) i = true ∨ Bd5 r q)
  (hcl : ∀ j m, L j = true → Nat.testBit (b.getD j 0) m = true → L m = true) (hci : ∀ m, Nat.testBit (b.getD i 0) m = true → L m = true) (hL : L i = false) (hrc : rcs[i]? = some rc)
  {x : Nat} (hx : x ∈ rc.fp ∨ x ∈ rc.wr) : ∀ (j : Nat) us, uss[j]? = some us → (∃ u ∈ us, u.slot = x) → L j = decide (j < i) := by
 intro j us hj hu
 have hjl : j < uss.length := (List.getElem?_eq_some_iff.1 hj).1
 obtain ⟨q, hq⟩ : ∃ q, rcs[j]? = some q := ⟨_, List.getElem?_eq_getElem (by omega)⟩
 have hxq : x ∈ q.wr := by
  rw [hw j us q hj hq]
  obtain ⟨u, h1, h2⟩ := hu
  exact List.mem_map.2 ⟨u, h1, h2⟩
 rcases Nat.lt_trichotomy j i with h | h | h
 ·rw [decide_eq_true h]
  rcases hsp j i q rc h hq hrc with h1 | ⟨h1, h2, h3, _, _⟩
  ·exact hci j h1
  ·rcases hx with hx | hx
   ·exact absurd hx (h1 x hxq)
   ·exact absurd hx (h2 x hxq)
 ·subst h; simpa using hL
 ·rw [decide_eq_false (by omega)]
  cases hb : L j with
  | false => rfl
  | true =>
   rcases hsp i j rc q h hrc hq with h1 | ⟨h1, h2, h3, _, _⟩
   ·rw [hcl j i hb h1] at hL; cases hL
   ·rcases hx with hx | hx
    ·exact absurd hx (h3 x hxq)
    ·exact absurd hxq (h2 x hx)
theorem Ao7 {l : List Slot} {x : Nat} (h : l.length ≤ x) : at? l x = Slot.dead := by
 unfold at?; simp [List.getD, List.getElem?_eq_none h]
def PO (t : Ty) (k : Nat) (s : Slot) : Prop := Ap9 s.sv = some t ∧ s.s = k
theorem A29 {x : Nat} : ∀ {us : List Up} {s : Slot}, us.any (At9 x) = false → (mP x s us).s = s.s
 | [], _, _ => rfl
 | u :: us, s, h => by
  rw [List.any_cons, Bool.or_eq_false_iff] at h
  simp only [mP]
  rw [A29 h.2]
  split
  ·rename_i hx
   cases u with
   | put r v =>
    have : Nat.beq x r = true := by rw [show x = r from hx]; exact Nat.beq_refl r
    rw [show At9 x (.put r v) = Nat.beq x r from rfl, this] at h
    exact absurd h.1 (by decide)
   | mod r v => rfl
   | pub r v => rfl
  ·rfl
theorem Ay7 {x : Nat} : ∀ {us : List Up} {s s' : Slot}, x ∈ us.map Up.slot → (mP x s us).sv = (mP x s' us).sv
 | [], _, _, h => by cases h
 | u :: us, s, s', h => by
  simp only [mP]
  by_cases hm : x ∈ us.map Up.slot
  ·exact Ay7 hm
  ·have hx : x = u.slot := by
    rw [List.map_cons, List.mem_cons] at h
    exact h.resolve_right hm
   have hq : ∀ v ∈ us, v.slot ≠ x := fun v hv e => hm (e ▸ List.mem_map_of_mem hv)
   rw [if_pos hx, if_pos hx, jD hq, jD hq]
   cases u <;> rfl
theorem A49 {x : Nat} {t : Ty} {k : Nat} {us : List Up} {l : List Slot} (hl : x < l.length) (hb : x ∉ AB7 l us) :
  (PO t k (at? l x) ↔ PO t k (at? (mL l us) x)) ∧ (PO t k (at? l x) → ∀ s, PO t k s → PO t k (mP x s us)) := by
 rw [lR hl]
 by_cases hm : x ∈ us.map Up.slot
 ·have he : Ac1 l us x = true := by
   cases he : Ac1 l us x with
   | true => rfl
   | false => exact absurd (List.mem_filter.2 ⟨hm, by rw [he]; rfl⟩) hb
  unfold Ac1 at he
  rw [Bool.and_eq_true, lR hl] at he
  have hp : us.any (At9 x) = false := by simpa using he.1
  have he2 := he.2
  split at he2
  ·rename_i a b e1 e2
   have hab : a = b := of_decide_eq_true he2
   subst hab
   refine ⟨?_, fun h s hs => ?_⟩
   ·unfold PO
    rw [A29 hp, e1, e2]
   ·refine ⟨?_, by rw [A29 hp]; exact hs.2⟩
    rw [Ay7 (s' := at? l x) hm, e2, ← e1]; exact h.1
  ·cases he2
 ·have hn : ∀ s, mP x s us = s := fun s => jD (fun v hv e => hm (e ▸ List.mem_map_of_mem hv))
  rw [hn]
  exact ⟨Iff.rfl, fun _ s hs => by rw [hn]; exact hs⟩
theorem A1N {x : Nat} {t : Ty} {k : Nat} : ∀ {uss : List (List Up)} {l : List Slot} {i : Nat}, x < l.length → (∀ j us, uss[j]? = some us → x ∉ AB7 (mL l (uss.take j).flatten) us) →
  PO t k (at? (mL l (uss.take i).flatten) x) → PO t k (at? l x)
 | [], l, i, _, _, h => by simpa [mL] using h
 | us :: uss, l, 0, _, _, h => by simpa [mL] using h
 | us :: uss, l, i + 1, hl, hb, h => by
  have h0 : x ∉ AB7 l us := by have := hb 0 us rfl; simpa [mL] using this
  refine (A49 hl h0).1.2 (A1N (uss := uss) (l := mL l us) (i := i) (by rw [rR]; exact hl) (fun j us' hj => ?_) ?_)
  ·have := hb (j + 1) us' (by simpa using hj)
   simpa [mQ] using this
  ·simpa [mQ] using h
theorem A4H {x : Nat} {t : Ty} {k : Nat} {L : Nat → Bool} : ∀ {uss : List (List Up)} {l : List Slot} {kk : Nat}, x < l.length → (∀ j us, uss[j]? = some us → x ∉ AB7 (mL l (uss.take j).flatten) us) →
  PO t k (at? l x) → ∀ s, PO t k s → PO t k (mP x s (sel L uss kk))
 | [], l, kk, _, _, _, s, hs => hs
 | us :: uss, l, kk, hl, hb, h, s, hs => by
  have h0 : x ∉ AB7 l us := by have := hb 0 us rfl; simpa [mL] using this
  obtain ⟨h1, h2⟩ := A49 (t := t) (k := k) hl h0
  simp only [sel]
  rw [lB]
  refine A4H (uss := uss) (l := mL l us) (by rw [rR]; exact hl) (fun j us' hj => ?_) (h1.1 h) _ ?_
  ·have := hb (j + 1) us' (by simpa using hj)
   simpa [mQ] using this
  ·split
   ·exact h2 h s hs
   ·exact hs
theorem jI {l : List Slot} {fp : List Nat} {s : Nat} (h : s ∈ fp) : sG l fp s = at? l s := by
 unfold sG
 rw [if_pos]
 exact List.any_eq_true.2 ⟨s, h, by simp⟩
theorem BN4 {l l' : List Slot} {fp fp' : List Nat} {mv : Bool} {o : Oper} {x : Operand} {s : Nat} {us : List Up} (hm : o.op = .move x) (hs : AL1 (at? l) mv x = some s) (hk : opK E R mv (sG l fp) o some = some us) (h1 : s ∈ fp) (h2 : s ∈ fp')
  {t : Ty} (hp : PO t (at? l s).s (at? l' s)) : opK E R mv (sG l' fp') o some = some us := by
 unfold AL1 at hs
 split at hs
 ·rename_i s0
  split at hs
  ·rename_i hc
   cases hs
   simp only [Bool.and_eq_true] at hc
   have e1 : AL1 (sG l fp) mv (.tmp s) = some s := by
    unfold AL1
    simp only
    rw [jI h1, if_pos (by simp [hc.1, hc.2])]
   have e2 : AL1 (sG l' fp') mv (.tmp s) = some s := by
    unfold AL1
    simp only
    rw [jI h2, if_pos (by simp [hc.1, hp.1])]
   unfold opK at hk ⊢
   rw [hm] at hk ⊢
   simp only at hk ⊢
   unfold A3d at hk ⊢
   rw [e1] at hk
   rw [e2]
   simp only at hk ⊢
   rw [jI h1] at hk
   rw [jI h2, hp.2]
   exact hk
  ·cases hs
 ·cases hs
theorem BL0 {l : List Slot} {o : Oper} {mv : Bool} {x : Operand} {s : Nat} (hm : o.op = .move x) (hs : AL1 (at? l) mv x = some s) : s ∈ Ak0 o l := by
 unfold AL1 at hs
 split at hs
 ·split at hs
  ·cases hs
   unfold Ak0
   rw [hm]
   simp [Op.operands, AK5]
  ·cases hs
 ·cases hs
theorem BM3 (u : Up) (a : Slot) : (u.on a).sv = u.v := by cases u <;> rfl
def FP (k : Nat) (v : SV) : Option Dat :=
 match v with
 | .tup d => (yO (zI k) d.t d.f d.x).filter (·.f.free)
 | _ => none
theorem Ba7 : ∀ {i k : Nat} {t : Ty} {f : Fl} {x : t.D} {e : Dat}, yO (zI i) t f x = some e → e.f.free = false →
  (yO (zI k) t (iP (zI i) f .gone) x).filter (·.f.free) = (yO (zI k) t f x).filter (·.f.free) := by
 intro i
 induction i with
 | zero =>
  intro k t f x e h hf
  cases t <;> try (simp only [zI, yO, reduceCtorEq] at h; done)
  rename_i a b
  simp only [zI, yO, Option.some.injEq] at h
  cases k with
  | zero =>
   simp only [zI, yO, iP]
   rw [kS, uQ, ← kS, Ao8]
   subst h
   simp only at hf
   show Option.filter _ (some _) = Option.filter _ (some _)
   simp only [Option.filter]
   rw [if_neg (show ¬ Fl.free .gone = true by decide), if_neg (by rw [hf]; decide)]
  | succ k =>
   simp only [zI, yO, iP]
   rw [kU, uQ, ← kU, A45]
 | succ i ih =>
  intro k t f x e h hf
  cases t <;> try (simp only [zI, yO, reduceCtorEq] at h; done)
  rename_i a b
  simp only [zI, yO] at h
  cases k with
  | zero =>
   simp only [zI, yO, iP]
   rw [kS, uQ, ← kS, Ao8]
  | succ k =>
   simp only [zI, yO, iP]
   rw [kU, uQ, ← kU, A45]
   exact ih h hf
theorem Aw5 {o : Oper} {x : Nat} (h : BS3 o x = true) : ∃ i d, o.op = .extract (.tmp x) i ∧ o.dst = some d ∧ x ≠ d := by
 unfold BS3 at h
 split at h
 ·rename_i s0 i d hop hd
  simp only [Bool.and_eq_true, Bool.not_eq_true', Nat.beq_eq] at h
  obtain ⟨h1, h2⟩ := h
  subst h1
  exact ⟨i, d, hop, hd, fun e => by subst e; simp at h2⟩
 ·cases h
theorem BR9 {l : List Slot} {fp : List Nat} {mv : Bool} {o : Oper} {us : List Up} {x : Nat} (hk : opK E R mv (sG l fp) o some = some us) (hx : BS3 o x = true) (hfp : x ∈ fp) (hm : x ∈ us.map Up.slot) (k : Nat) (s : Slot) :
  FP k (mP x s us).sv = FP k (at? l x).sv := by
 obtain ⟨i, d, hop, hd, hne⟩ := Aw5 hx
 unfold opK at hk
 rw [hop] at hk
 simp only at hk
 unfold eV at hk
 simp only at hk
 rw [jI hfp] at hk
 split at hk
 ·rename_i t ht
  split at hk
  ·rename_i e he
   split at hk
   ·unfold qK at hk
    rw [hd] at hk
    simp only [List.nil_append, Option.some.injEq] at hk
    subst hk
    simp only [List.map_cons, List.map_nil, List.mem_singleton, Up.slot] at hm
    exact absurd hm hne
   ·rename_i hnf
    split at hk
    ·unfold qK at hk
     rw [hd] at hk
     simp only [Option.some.injEq] at hk
     subst hk
     simp only [List.cons_append, List.nil_append, mP, Up.slot, if_neg hne, if_true]
     rw [BM3, ht]
     exact Ba7 he (by simpa using hnf)
    ·cases hk
  ·cases hk
 ·cases hk
theorem Bg6 {l l' : List Slot} {fp fp' : List Nat} {mv : Bool} {o : Oper} {s : Nat} {us : List Up} (hex : AQ2 l o = [s]) (hk : opK E R mv (sG l fp) o some = some us) (h1 : s ∈ fp) (h2 : s ∈ fp')
  (heq : ∀ k, FP k (at? l' s).sv = FP k (at? l s).sv) : opK E R mv (sG l' fp') o some = some us := by
 unfold AQ2 at hex
 split at hex
 ·rename_i s0 i hop
  split at hex
  ·rename_i d hd
   split at hex
   ·rename_i e he
    split at hex
    ·rename_i hf
     simp only [List.cons.injEq, and_true] at hex
     subst hex
     have hq := heq i
     rw [hd] at hq
     have e1 : FP i (.tup d) = some e := by unfold FP; simp only; rw [he]; simp [Option.filter, hf]
     rw [e1] at hq
     unfold FP at hq
     split at hq
     ·rename_i d2 hd2
      obtain ⟨e2, hg, hq2⟩ : ∃ e2, yO (zI i) d2.t d2.f d2.x = some e2 ∧ e2 = e := by
       cases hg : yO (zI i) d2.t d2.f d2.x with
       | none => rw [hg] at hq; cases hq
       | some e2 =>
        rw [hg] at hq
        refine ⟨e2, rfl, ?_⟩
        simp only [Option.filter] at hq
        split at hq
        ·exact Option.some.inj hq
        ·cases hq
      subst hq2
      unfold opK at hk ⊢
      rw [hop] at hk ⊢
      simp only at hk ⊢
      unfold eV at hk ⊢
      simp only at hk ⊢
      rw [jI h1, hd] at hk
      rw [jI h2, hd2]
      simp only at hk ⊢
      rw [he] at hk
      rw [hg]
      simp only at hk ⊢
      rw [if_pos hf] at hk ⊢
      exact hk
     ·cases hq
    ·cases hex
   ·cases hex
  ·cases hex
 ·cases hex
theorem A82 {l : List Slot} {o : Oper} {s : Nat} (hex : AQ2 l o = [s]) : s ∈ Ak0 o l ∧ s < l.length := by
 unfold AQ2 at hex
 split at hex
 ·rename_i s0 i hop
  split at hex
  ·rename_i d hd
   split at hex
   ·split at hex
    ·simp only [List.cons.injEq, and_true] at hex
     subst hex
     refine ⟨by unfold Ak0; rw [hop]; simp [Op.operands, AK5], ?_⟩
     rcases Nat.lt_or_ge s0 l.length with h | h
     ·exact h
     ·rw [Ao7 h] at hd; cases hd
    ·cases hex
   ·cases hex
  ·cases hex
 ·cases hex
theorem A4k {L : Nat → Bool} {us : List Up} : ∀ {uss : List (List Up)} {k : Nat}, sel L (uss ++ [us]) k = sel L uss k ++ (if L (k + uss.length) then us else [])
 | [], k => by simp [sel]
 | v :: uss, k => by
  simp only [List.cons_append, sel, List.length_cons]
  rw [A4k (uss := uss) (k := k + 1), List.append_assoc, show k + 1 + uss.length = k + (uss.length + 1) by omega]
theorem Ba0 {x k i : Nat} {l : List Slot} {uss : List (List Up)} {L : Nat → Bool} {tw : Nat → Prop} (hl : x < l.length)
  (hX : ∀ j us, uss[j]? = some us → x ∈ us.map Up.slot → ¬ tw j → ∀ s, FP k (mP x s us).sv = FP k (at? (mL l (uss.take j).flatten) x).sv)
  (hW : ∀ j, j < uss.length → tw j → L j = decide (j < i)) (hC : ∀ j j' us, j' < j → tw j' → uss[j]? = some us → x ∈ us.map Up.slot → L j = true → L j' = true) :
  FP k (at? (mL l (sel L uss 0)) x).sv = FP k (at? (mL l (uss.take i).flatten) x).sv := by
 have hT : ∀ n us, uss[n]? = some us → at? (mL l (uss.take (n + 1)).flatten) x = mP x (at? (mL l (uss.take n).flatten) x) us := fun n us hu => by
  rw [List.take_add_one, hu, List.flatten_append, mQ, lR (by rw [rR]; exact hl)]
  simp
 have none_ : ∀ us, x ∉ us.map Up.slot → ∀ s, mP x s us = s := fun us hn s => jD fun v hv e => hn (e ▸ List.mem_map_of_mem hv)
 have pW : ∀ n, i ≤ n → n ≤ uss.length → (∀ j, i ≤ j → j < n → ¬ tw j) → FP k (at? (mL l (uss.take n).flatten) x).sv = FP k (at? (mL l (uss.take i).flatten) x).sv := by
  intro n
  induction n with
  | zero => intro h _ _; rw [Nat.le_zero.1 h]
  | succ n ih =>
   intro h1 h2 h3
   rcases Nat.lt_or_ge i (n + 1) with h | h
   ·have hu : uss[n]? = some uss[n] := List.getElem?_eq_getElem (by omega)
    rw [hT n _ hu, ← ih (by omega) (by omega) fun j a b => h3 j a (by omega)]
    by_cases hx : x ∈ (uss[n]).map Up.slot
    ·exact hX n _ hu hx (h3 n (by omega) (by omega)) _
    ·rw [none_ _ hx]
   ·rw [show i = n + 1 by omega]
 have key : ∀ n, n ≤ uss.length → FP k (mP x (at? l x) (sel L (uss.take n) 0)).sv = FP k (at? (mL l (uss.take (min n i)).flatten) x).sv := by
  intro n
  induction n with
  | zero => intro _; simp [sel, mP, mL]
  | succ n ih =>
   intro hn
   have hu : uss[n]? = some uss[n] := List.getElem?_eq_getElem (by omega)
   have ih := ih (by omega)
   have e1 : sel L (uss.take (n + 1)) 0 = sel L (uss.take n) 0 ++ (if L n then uss[n] else []) := by
    rw [List.take_add_one, hu]
    show sel L (uss.take n ++ [uss[n]]) 0 = _
    rw [A4k, List.length_take, Nat.zero_add, Nat.min_eq_left (by omega)]
   rw [e1, lB]
   by_cases hx : x ∈ (uss[n]).map Up.slot
   ·by_cases ht : tw n
    ·have hL := hW n (by omega) ht
     rcases Nat.lt_or_ge n i with h | h
     ·rw [decide_eq_true h] at hL
      rw [hL, if_pos rfl, Nat.min_eq_left (show n + 1 ≤ i by omega), hT n _ hu, Ay7 hx]
     ·rw [decide_eq_false (by omega)] at hL
      rw [hL, if_neg (by decide), Nat.min_eq_right (show i ≤ n + 1 by omega)]
      rw [Nat.min_eq_right h] at ih
      exact ih
    ·have hf := hX n _ hu hx ht
     rcases Nat.lt_or_ge n i with h | h
     ·rw [Nat.min_eq_left (show n + 1 ≤ i by omega), hT n _ hu, hf]
      rw [Nat.min_eq_left (show n ≤ i by omega)] at ih
      split
      ·rw [hf]
      ·exact ih
     ·rw [Nat.min_eq_right (show i ≤ n + 1 by omega)]
      rw [Nat.min_eq_right h] at ih
      split
      ·rename_i hL
       rw [hf]
       refine pW n h (by omega) fun j a b htj => ?_
       have h1 := hC n j _ b htj hu hx hL
       rw [hW j (by omega) htj, decide_eq_false (by omega)] at h1
       cases h1
      ·exact ih
   ·have e2 : mP x (mP x (at? l x) (sel L (uss.take n) 0)) (if L n then uss[n] else []) = mP x (at? l x) (sel L (uss.take n) 0) := by
     split
     ·exact none_ _ hx _
     ·rfl
    rw [e2, ih]
    rcases Nat.lt_or_ge n i with h | h
    ·rw [Nat.min_eq_left (show n + 1 ≤ i by omega), Nat.min_eq_left (show n ≤ i by omega), hT n _ hu, none_ _ hx]
    ·rw [Nat.min_eq_right (show i ≤ n + 1 by omega), Nat.min_eq_right h]
 have h0 := key uss.length (Nat.le_refl _)
 rw [List.take_length] at h0
 rw [lR hl, h0]
 rcases Nat.le_total i uss.length with h | h
 ·rw [Nat.min_eq_right h]
 ·rw [Nat.min_eq_left h, List.take_of_length_le h, List.take_length]
theorem BR0 (hR : AM9 E R) (hm : E.P.follows .mixedOrders = true) : A15 E R := by
 intro ρ H mv ops id l a w S β κ r Q hl hrel hin hk hQ
 obtain ⟨uss, rcs, hu, hrc, hκ, ⟨hap, hnb⟩, hed, hst⟩ := An7 hk
 simp only [List.nil_append] at hap hnb
 have hsp := Aq3 hap
 simp only [Nat.zero_add] at hsp hst
 have hwr : ∀ (j : Nat) us q, uss[j]? = some us → rcs[j]? = some q → q.wr = us.map Up.slot := fun j us q h1 h2 => by
  have hj : j < ops.length := by have := (List.getElem?_eq_some_iff.1 h1).1; omega
  exact (hst j ops[j] us q (List.getElem?_eq_getElem hj) h1 h2).1
 refine wp_region_any hm ?_
 have hw1 : Rel H a.tmps.size (at? l) (qR a) { w with drawn := w.drawn + 1 } S β := hrel.heap rfl (hl ▸ A7j)
 have hs1 : Step w S β { w with drawn := w.drawn + 1 } S β := ⟨Nat.le_refl _, fun _ _ _ => rfl, fun k _ hb => .inl ⟨k, hb⟩, fun _ hb => hb, fun _ hb => .inl hb, ⟨rfl, rfl, rfl⟩⟩
 have hn : ops.toArray.size = ops.length := by simp
 have fin : ∀ (listed : Array Bool) (a' : Act) (w' : World) (S' : Nat → Prop) (β' : Key → Option Nat), (∀ i, i < ops.length → listed.getD i false = true) → a'.tmps.size = a.tmps.size → a'.defers = a.defers →
   Rel H a.tmps.size (at? (mL l (sel (fun i => listed.getD i false) uss 0))) (qR a') w' S' β' → Step w S β w' S' β' → Q .normal a' w' := by
  intro listed a' w' S' β' hall e1 e2 hr hstep
  have hlast := A8J (L := fun i => listed.getD i false) (uss := uss) (k := 0) (fun j hj => by rw [Nat.zero_add]; exact hall j (by omega))
  exact hQ _ a' w' S' β' (by rw [rR]; exact hl) (by rw [← hlast] at hκ; exact hκ) e1 e2 hr hstep
 have key : ∀ (fuel : Nat) (listed : Array Bool) (a' : Act) (w' : World) (S' : Nat → Prop) (β' : Key → Option Nat), listed.size = ops.length → cf listed.toList = fuel →
   (∀ i m, listed.getD i false = true → Nat.testBit ((AQ4 ops).getD i 0) m = true → listed.getD m false = true) → a'.tmps.size = a.tmps.size → a'.defers = a.defers →
   Rel H a.tmps.size (at? (mL l (sel (fun i => listed.getD i false) uss 0))) (qR a') w' S' β' → Step w S β w' S' β' → wpAny E.P .any ops.toArray Q fuel listed a' w' := by
  intro fuel
  induction fuel with
  | zero =>
   intro listed a' w' S' β' hsz hcf hcl e1 e2 hr hstep
   have hall : ∀ i, i < ops.length → listed.getD i false = true := fun i hi => by
    have h1 := A6q (l := listed.toList) (i := i) hcf
    have h2 : i < listed.size := by omega
    rw [Array.getElem?_toList, Array.getElem?_eq_getElem h2] at h1
    simp only [Array.getD_eq_getD_getElem?, Array.getElem?_eq_getElem h2, Option.getD_some]
    cases hb : listed[i] with
    | true => rfl
    | false => rw [hb] at h1; exact absurd rfl h1
   refine ⟨?_, fin listed a' w' S' β' hall e1 e2 hr hstep⟩
   apply List.eq_nil_iff_forall_not_mem.2
   intro i hi
   obtain ⟨o, h1, h2, _⟩ := Af4.1 hi
   have := hall i (List.getElem?_eq_some_iff.1 h1).1
   rw [(A4w h2).2] at this; cases this
  | succ fuel ih =>
   intro listed a' w' S' β' hsz hcf hcl e1 e2 hr hstep
   refine ⟨fun hnil => fin listed a' w' S' β' (A8L hsz hed hnil) e1 e2 hr hstep, fun i hi => ?_⟩
   obtain ⟨o, ho, hli, hedge⟩ := Af4.1 hi
   obtain ⟨hilt, hLi⟩ := A4w hli
   obtain ⟨us, hus⟩ : ∃ us, uss[i]? = some us := ⟨_, List.getElem?_eq_getElem (by omega)⟩
   obtain ⟨rc, hrci⟩ : ∃ rc, rcs[i]? = some rc := ⟨_, List.getElem?_eq_getElem (by omega)⟩
   obtain ⟨hwi, _, _, _, hst'⟩ := hst i o us rc ho hus hrci
   have hci : ∀ m, Nat.testBit ((AQ4 ops).getD i 0) m = true → listed.getD m false = true := fun m hm => by
    obtain ⟨e, e1, e2, _, e4⟩ := A5U hed ho hm
    have := hedge e e1 e2
    rcases e4 with e4 | e4
    ·rw [← e4]; exact this
    ·exact hcl e.on m this e4
   have hag : ∀ {x : Nat}, x ∈ rc.fp ∨ x ∈ rc.wr → ∀ (j : Nat) us, uss[j]? = some us → (∃ u ∈ us, u.slot = x) → listed.getD j false = decide (j < i) := fun {x} hx =>
    A25 (L := fun i => listed.getD i false) (by omega) hwr hsp hcl hci hLi hrci hx
   have hat : ∀ x, x ∈ rc.fp ∨ x ∈ rc.wr → at? (mL l (sel (fun i => listed.getD i false) uss 0)) x = at? (mL l (uss.take i).flatten) x := fun x hx => by
    by_cases hlen : x < l.length
    ·rw [lR hlen, lR hlen]
     rw [AP4 (L := fun i => listed.getD i false) (M := fun j => decide (j < 0 + i)) (fun j us hj hu => by simp only [Nat.zero_add]; exact hag hx j us hj hu), Aw7]
    ·rw [Ao7 (by rw [rR]; omega), Ao7 (by rw [rR]; omega)]
   have hat' : ∀ x, at? (mL (mL l (sel (fun i => listed.getD i false) uss 0)) us) x = at? (mL l (sel (fun j => (listed.setIfInBounds i true).getD j false) uss 0)) x := fun x => by
    by_cases hlen : x < l.length
    ·rw [lR (by rw [rR]; exact hlen), lR hlen, lR hlen]
     by_cases ht : ∃ u ∈ us, u.slot = x
     ·have hx : x ∈ rc.wr := by
       rw [hwi]
       obtain ⟨u, h1, h2⟩ := ht
       exact List.mem_map.2 ⟨u, h1, h2⟩
      rw [AP4 (L := fun i => listed.getD i false) (M := fun j => decide (j < 0 + i)) (fun j us hj hu => by simp only [Nat.zero_add]; exact hag (.inr hx) j us hj hu), Aw7, ← lB,
       AP4 (L := fun j => (listed.setIfInBounds i true).getD j false) (M := fun j => decide (j < 0 + (i + 1))) (fun j us' hj hu => by
        simp only [Nat.zero_add]
        rw [Av4 hilt, hag (.inr hx) j us' hj hu, ← Bool.decide_or]
        exact decide_eq_decide.2 (by omega)), Aw7, List.take_add_one, hus]
      simp
     ·rw [jD fun u hu e => ht ⟨u, hu, e⟩]
      exact AP4 fun j us' hj hu => by
       simp only [Nat.zero_add]
       rw [Av4 hilt]
       by_cases e : j = i
       ·subst e; rw [hj] at hus; cases hus; exact absurd hu ht
       ·simp [e]
    ·rw [Ao7 (by rw [rR, rR]; omega), Ao7 (by rw [rR]; omega)]
   have next : ∀ a'' w'' S'' β'', a''.tmps.size = a.tmps.size → a''.defers = a.defers → Rel H a.tmps.size (at? (mL (mL l (sel (fun i => listed.getD i false) uss 0)) us)) (qR a'') w'' S'' β'' → Step w S β w'' S'' β'' →
     wpAny E.P .any ops.toArray Q fuel (listed.setIfInBounds i true) a'' w'' := by
    intro a'' w'' S'' β'' f1 f2 hr'' hstep''
    refine ih _ a'' w'' S'' β'' (by simpa using hsz) ?_ ?_ f1 f2 ?_ hstep''
    ·have : listed.toList[i]? = some false := by
      rw [Array.getElem?_toList, Array.getElem?_eq_getElem hilt]
      rw [Array.getD_eq_getD_getElem?, Array.getElem?_eq_getElem hilt] at hLi
      simpa using hLi
     have := BE8 this
     rw [Array.toList_setIfInBounds]; omega
    ·intro j m hj hm
     rw [Av4 hilt] at hj ⊢
     by_cases e : j = i
     ·subst e; simp [hci m hm]
     ·simp only [e, decide_false, Bool.false_or] at hj
      simp [hcl j m hj hm]
    ·rw [← funext hat']; exact hr''
   have hoin := hin o (List.mem_of_getElem? ho)
   have hlc : (mL l (sel (fun i => listed.getD i false) uss 0)).length = a'.tmps.size := by rw [rR, hl, e1]
   unfold wpOp
   simp only [List.getElem?_toArray, ho]
   rcases hst' with ⟨hop, gs, hg, hfc⟩ | ⟨j, want, g, h1, h2, h3, h4, h5⟩
   ·have hgs : ∀ x, x ∈ gs → x ∈ rc.fp := by
     rcases hfc with h | ⟨h, _⟩ | ⟨h, _⟩
     ·intro x hx; rw [h]; exact List.mem_append_left _ hx
     ·intro x hx; rw [h]; exact hx
     ·intro x hx; rw [h]; exact hx
    have hwant : Region.wanted o (yielded ops.toArray a'.tmps) = true := by
     rcases hg with ⟨h, _⟩ | ⟨j, want, g, h1, h2, h3, h4⟩
     ·simp [Region.wanted, h]
     ·have := AM2 hr h2 (t := want) (by rw [hat g (.inl (hgs g (by rw [h3]; simp)))]; exact h4)
      simp [Region.wanted, h1, this]
    rw [if_pos hwant]
    left
    have hop : opK E R (mv.any (Nat.beq i ·)) (sG (mL l (sel (fun i => listed.getD i false) uss 0)) (Ak0 o (mL l (uss.take i).flatten))) o some = some us := by
     rcases hfc with h | ⟨h, x, s, hm, hs, hsf⟩ | ⟨h, s, hex, hts⟩
     ·rw [A5M fun x hx => hat x (.inl (by rw [h]; exact List.mem_append_right _ hx))]; exact hop
     ·have hmem := BL0 hm hs
      have hbads : ∀ j us, uss[j]? = some us → s ∉ AB7 (mL l (uss.take j).flatten) us := fun j us' hj hbad => by
       have hjl : j < ops.length := by have := (List.getElem?_eq_some_iff.1 hj).1; omega
       obtain ⟨q, hq⟩ : ∃ q, rcs[j]? = some q := ⟨_, List.getElem?_eq_getElem (by omega)⟩
       have hb2 := (hst j ops[j] us' q (List.getElem?_eq_getElem hjl) hj hq).2.1 s hbad
       unfold A9e at hnb
       rw [cE.2 ⟨s, List.mem_flatMap.2 ⟨rc, List.mem_of_getElem? hrci, by rw [hsf]; simp⟩, List.mem_flatMap.2 ⟨q, List.mem_of_getElem? hq, hb2⟩⟩] at hnb
       cases hnb
      have hps : ∃ t, Ap9 (at? (mL l (uss.take i).flatten) s).sv = some t := by
       unfold AL1 at hs
       split at hs
       ·split at hs
        ·rename_i hc
         cases hs
         simp only [Bool.and_eq_true] at hc
         exact Option.isSome_iff_exists.1 hc.2
        ·cases hs
       ·cases hs
      obtain ⟨t, ht⟩ := hps
      have hlen : s < l.length := by
       rcases Nat.lt_or_ge s l.length with h | h
       ·exact h
       ·rw [Ao7 (by rw [rR]; exact h)] at ht; cases ht
      have hpi : PO t (at? (mL l (uss.take i).flatten) s).s (at? (mL l (uss.take i).flatten) s) := ⟨ht, rfl⟩
      have hp0 := A1N hlen hbads hpi
      refine BN4 hm hs hop hmem hmem (t := t) ?_
      have hfin := A4H (L := fun i => listed.getD i false) (kk := 0) hlen hbads hp0 _ hp0
      rw [← lR hlen] at hfin
      exact hfin
     ·obtain ⟨hmem, hlen⟩ := A82 hex
      rw [rR] at hlen
      refine Bg6 hex hop hmem hmem fun k => Ba0 (i := i) (tw := fun j => ∃ q, rcs[j]? = some q ∧ s ∈ q.tw) hlen (fun j us' hj hx hn s' => ?_) (fun j hjl hw => ?_) fun j j' us' hjj hw hj hx hL => ?_
      ·have hjl : j < ops.length := by have := (List.getElem?_eq_some_iff.1 hj).1; omega
       obtain ⟨q, hq⟩ : ∃ q, rcs[j]? = some q := ⟨_, List.getElem?_eq_getElem (by omega)⟩
       obtain ⟨_, _, _, h4, h5⟩ := hst j ops[j] us' q (List.getElem?_eq_getElem hjl) hj hq
       have he := (h4 s hx).resolve_left fun h => hn ⟨q, hq, h⟩
       rcases h5 with ⟨ho', _⟩ | ⟨_, _, _, _, _, _, _, h6⟩
       ·refine BR9 ho' he ?_ hx k s'
        obtain ⟨i0, d0, e0, _, _⟩ := Aw5 he
        unfold Ak0; rw [e0]; simp [Op.operands, AK5]
       ·exfalso
        obtain ⟨i0, d0, _, e1, e2⟩ := Aw5 he
        rw [e1] at h6
        simp only at h6
        subst h6
        simp only [List.map_cons, List.map_nil, List.mem_singleton, Up.slot] at hx
        exact e2 hx
      ·obtain ⟨q, hq, hs⟩ := hw
       have hst2 : s ∈ rc.ts := by rw [hts]; simp
       rcases Nat.lt_trichotomy j i with h6 | h6 | h6
       ·rw [decide_eq_true h6]
        rcases hsp j i q rc h6 hq hrci with h1 | ⟨_, _, _, h1, _⟩
        ·exact hci j h1
        ·exact absurd hst2 (h1 s hs)
       ·subst h6; simpa using hLi
       ·rw [decide_eq_false (by omega)]
        cases hb : listed.getD j false with
        | false => rfl
        | true =>
         rcases hsp i j rc q h6 hrci hq with h1 | ⟨_, _, _, _, h1⟩
         ·rw [hcl j i hb h1] at hLi; cases hLi
         ·exact absurd hst2 (h1 s hs)
      ·obtain ⟨q', hq', hs⟩ := hw
       have hjl : j < ops.length := by have := (List.getElem?_eq_some_iff.1 hj).1; omega
       obtain ⟨q, hq⟩ : ∃ q, rcs[j]? = some q := ⟨_, List.getElem?_eq_getElem (by omega)⟩
       have h6 : s ∈ q.wr := by rw [hwr j us' q hj hq]; exact hx
       obtain ⟨us2, hj2⟩ : ∃ us2, uss[j']? = some us2 := ⟨_, List.getElem?_eq_getElem (by omega)⟩
       have h7 : s ∈ q'.wr := by
        rw [hwr j' us2 q' hj2 hq']
        exact (hst j' ops[j'] us2 q' (List.getElem?_eq_getElem (by omega)) hj2 hq').2.2.1 s hs
       rcases hsp j' j q' q hjj hq' hq with h1 | ⟨_, h1, _⟩
       ·exact hcl j j' hL h1
       ·exact absurd h6 (h1 s h7)
    refine A7k hR hlc (by rw [e1]; exact hr) (by rw [e1]; exact hoin) hop fun us' a'' w'' S'' β'' g0 g1 g2 g3 g4 => ?_
    cases g0
    exact next a'' w'' S'' β'' (g1.trans e1) (g2.trans e2) (by rw [← e1]; exact g3) (hstep.trans g4)
   ·have hv := hat g (.inl (by rw [h3]; simp))
    have hwant : Region.wanted o (yielded ops.toArray a'.tmps) = false := by
     rcases h4 with h4 | h4
     ·have := Ah8 hr h2 (by rw [hv]; exact h4)
      simp [Region.wanted, h1, this]
     ·have := AM2 hr h2 (t := !want) (by rw [hv]; exact h4)
      simp [Region.wanted, h1, this]
    rw [if_neg (by rw [hwant]; simp)]
    cases hd : o.dst with
    | some d =>
     rw [hd] at h5
     simp only at h5
     subst h5
     have hdN := xO hoin hd
     refine next _ _ _ _ (wW.trans e1) (yS.trans e2) ?_ hstep
     have := (show Rel H a'.tmps.size _ (qR a') w' S' β' by rw [e1]; exact hr).unset hlc (d := d) (by omega)
     rw [e1] at this; exact this
    | none =>
     rw [hd] at h5
     simp only at h5
     subst h5
     exact next _ _ _ _ e1 e2 hr hstep
 refine key _ _ a _ S β (by simp) ?_ ?_ rfl rfl ?_ hs1
 ·have : ∀ n, cf (List.replicate n false) = n := by
   intro n
   induction n with
   | zero => rfl
   | succ n ih => simp only [List.replicate_succ, cf, ih]; simp; omega
  rw [Array.toList_replicate]; exact this _
 ·intro i m hi
  exfalso
  simp [Array.getD_eq_getD_getElem?, Array.getElem?_replicate] at hi
  split at hi <;> simp at hi
 ·have : ∀ (uss : List (List Up)) (k : Nat), sel (fun i => (Array.replicate ops.toArray.size false).getD i false) uss k = [] := by
   intro uss
   induction uss with
   | nil => intro k; rfl
   | cons us r ih =>
    intro k
    simp only [sel, ih (k + 1), List.append_nil]
    rw [if_neg]
    simp [Array.getD_eq_getD_getElem?, Array.getElem?_replicate]
    split <;> simp
  rw [this]; exact hw1
end
end Go.Rf

end
section
namespace Go.Rf
set_option linter.unusedSectionVars false
variable [T : Laid]
def noH : Nat → Option (List Value) := fun _ => none
theorem Aq9 : ∀ {f : Fl}, f.nopin = true → f.pins = []
 | .pin _ _, h => by simp [Fl.nopin] at h
 | .sh, _ | .gone, _ | .own _, _ | .pr _ _, _ | .ar _, _ => rfl
theorem cO : ∀ {f : Fl}, f.nopin = true → f.base = f
 | .pin _ _, h => by simp [Fl.nopin] at h
 | .sh, _ | .gone, _ | .own _, _ | .pr _ _, _ | .ar _, _ => rfl
theorem A3J : ∀ {f : Fl}, f.nopin = true → f.l.nopin = true
 | .pin _ _, h => by simp [Fl.nopin] at h
 | .pr _ _, h => by simp only [Fl.nopin, Bool.and_eq_true] at h; exact h.1
 | .sh, _ | .gone, _ | .own _, _ | .ar _, _ => rfl
theorem A9D : ∀ {f : Fl}, f.nopin = true → f.r.nopin = true
 | .pin _ _, h => by simp [Fl.nopin] at h
 | .pr _ _, h => by simp only [Fl.nopin, Bool.and_eq_true] at h; exact h.2
 | .sh, _ | .gone, _ | .own _, _ | .ar _, _ => rfl
section
variable {S S' : Nat → Prop} {β : Key → Option Nat} {H H' : Nat → Option (List Value)} {w w' : World}
theorem nO {f : Fl} {c : List Value} (hf : f.nopin = true) : pX H f c := fun k hk => by rw [Aq9 hf] at hk; cases hk
theorem dA : ∀ {t : Ty} {k : Key} {f : Fl} {x : t.D} {c : List Value}, f.nopin = true → zP S β H w k t f x c → zP S β H' w k t f x c
 | .int _, _, _, _, _, hf, h => by simp only [zP] at h ⊢; exact ⟨nO hf, h.2⟩
 | .bool, _, _, _, _, hf, h => by simp only [zP] at h ⊢; exact ⟨nO hf, h.2⟩
 | .str, _, _, _, _, hf, h => by simp only [zP] at h ⊢; exact ⟨nO hf, h.2⟩
 | .fn, _, _, _, _, hf, h => by simp only [zP] at h ⊢; exact ⟨nO hf, h.2⟩
 | .unit, _, _, _, _, hf, h => by simp only [zP] at h ⊢; exact ⟨nO hf, h.2⟩
 | .sl _, k, f, x, c, hf, h => by
  simp only [zP] at h ⊢
  refine ⟨nO hf, ?_⟩
  have h := h.2
  rw [cO hf] at h ⊢
  cases f with
  | own e =>
   obtain ⟨ad, cap, e1, e2, h⟩ := h
   refine ⟨ad, cap, e1, e2, h.imp id ?_⟩
   rintro ⟨b, o, cs, q1, q2, q3, q4, q5⟩
   exact ⟨b, o, cs, q1, q2, q3, q4, fun i y hy => dA hf (q5 i y hy)⟩
  | _ => exact h
 | .ptr _, k, f, x, c, hf, h => by
  simp only [zP] at h ⊢
  refine ⟨nO hf, ?_⟩
  have h := h.2
  rw [cO hf] at h ⊢
  cases f with
  | own e =>
   obtain ⟨b, cs, q1, q2, q3, q4, q5⟩ := h
   exact ⟨b, cs, q1, q2, q3, q4, dA hf q5⟩
  | _ => exact h
 | .arr _ _, k, f, x, c, hf, h => by
  simp only [zP] at h ⊢
  refine ⟨nO hf, ?_⟩
  have h := h.2
  rw [cO hf] at h ⊢
  cases f with
  | ar e => exact ⟨h.1, h.2.1, fun i y hy => dA hf (h.2.2 i y hy)⟩
  | _ => exact h
 | .pair _ _, k, f, x, c, hf, h => by
  simp only [zP] at h ⊢
  refine ⟨nO hf, ?_⟩
  have h := h.2
  rw [cO hf] at h ⊢
  cases f with
  | pr e1 e2 =>
   simp only [Fl.nopin, Bool.and_eq_true] at hf
   exact ⟨dA hf.1 h.1, dA hf.2 h.2⟩
  | _ => exact h
theorem fT : ∀ {t : Ty}, sR t .sh = true → A0Q t = true
 | .int _, _ | .bool, _ | .str, _ | .unit, _ => rfl
 | .arr _ t, h => by simp only [sR, Fl.a] at h; simp only [A0Q]; exact fT h
 | .pair a b, h => by
  simp only [sR, Fl.l, Fl.r, Bool.and_eq_true] at h
  simp only [A0Q, Bool.and_eq_true]; exact ⟨fT h.1, fT h.2⟩
 | .fn, h | .sl _, h | .ptr _, h => by simp [sR] at h
theorem qQ : ∀ {t : Ty}, sR t .gone = true → A0Q t = true
 | .int _, _ | .bool, _ | .str, _ | .unit, _ => rfl
 | .arr _ t, h => by simp only [sR, Fl.a] at h; simp only [A0Q]; exact qQ h
 | .pair a b, h => by
  simp only [sR, Fl.l, Fl.r, Bool.and_eq_true] at h
  simp only [A0Q, Bool.and_eq_true]; exact ⟨qQ h.1, qQ h.2⟩
 | .fn, h | .sl _, h | .ptr _, h => by simp [sR] at h
theorem oI : ∀ {t : Ty} {f : Fl} {k : Key} {x : t.D} {c : List Value}, sR t f = true → zP S β H w k t f x c → zP S' β H w k t f x c
 | .int _, f, _, _, _, _, h | .bool, f, _, _, _, _, h | .str, f, _, _, _, _, h | .unit, f, _, _, _, _, h => by
  simp only [zP] at h ⊢
  refine ⟨h.1, ?_⟩
  have h := h.2
  cases hf : f.base <;> rw [hf] at h <;> first | exact h | (simpa only [Rd] using h)
 | .fn, _, _, _, _, hc, _ => by simp [sR] at hc
 | .sl t, f, _, _, _, hc, h => by
  cases f with
  | own e =>
   simp only [sR] at hc
   simp only [zP, Fl.base] at h ⊢
   obtain ⟨h0, ad, cap, e1, e2, h⟩ := h
   refine ⟨h0, ad, cap, e1, e2, h.imp id ?_⟩
   rintro ⟨b, o, cs, q1, q2, q3, q4, q5⟩
   exact ⟨b, o, cs, q1, q2, q3, q4, fun i y hy => oI hc (q5 i y hy)⟩
  | _ => simp [sR] at hc
 | .ptr t, f, _, _, _, hc, h => by
  cases f with
  | own e =>
   simp only [sR] at hc
   simp only [zP, Fl.base] at h ⊢
   obtain ⟨h0, b, cs, q1, q2, q3, q4, q5⟩ := h
   exact ⟨h0, b, cs, q1, q2, q3, q4, oI hc q5⟩
  | _ => simp [sR] at hc
 | .arr n t, f, _, x, c, hc, h => by
  simp only [sR] at hc
  rw [aU] at hc
  simp only [zP] at h ⊢
  refine ⟨h.1, ?_⟩
  have h := h.2
  have rd : A0Q t = true → Rd S w (.arr n t) x c → Rd S' w (.arr n t) x c := fun hs => bC (t := .arr n t) hs
  cases hf : f.base with
  | ar e =>
   rw [hf] at h hc
   exact ⟨h.1, h.2.1, fun i y hy => oI hc (h.2.2 i y hy)⟩
  | gone => rw [hf] at h; exact h
  | sh => rw [hf] at h hc; exact rd (fT hc) h
  | own e => rw [hf] at h hc; exact rd (qQ hc) h
  | pr e1 e2 => rw [hf] at h hc; exact rd (qQ hc) h
  | pin k e => exact absurd hf zR
 | .pair a b, f, _, x, c, hc, h => by
  simp only [sR, Bool.and_eq_true] at hc
  rw [kS, kU] at hc
  simp only [zP] at h ⊢
  refine ⟨h.1, ?_⟩
  have h := h.2
  have rd : A0Q a = true ∧ A0Q b = true → Rd S w (.pair a b) x c → Rd S' w (.pair a b) x c := fun hs => bC (t := .pair a b) (by simp [A0Q, hs.1, hs.2])
  cases hf : f.base with
  | pr e1 e2 =>
   rw [hf] at h hc
   exact ⟨oI hc.1 h.1, oI hc.2 h.2⟩
  | gone => rw [hf] at h; exact h
  | sh => rw [hf] at h hc; exact rd ⟨fT hc.1, fT hc.2⟩ h
  | own e => rw [hf] at h hc; exact rd ⟨qQ hc.1, qQ hc.2⟩ h
  | ar e => rw [hf] at h hc; exact rd ⟨qQ hc.1, qQ hc.2⟩ h
  | pin k e => exact absurd hf zR
end
def AV6 (P : Program) (f : FuncId) (args : Array Value) (w : World) (R : Value → World → Prop) : Prop :=
 (∃ fn, P.funcs[f]? = some fn ∧ (fn.name == "runtime.NumGoroutine") = false ∧ fn.body.isNone = false ∧ Calls P f args w fun | .returned v, w' => R v w' | _, _ => False) ∨
 ∃ v w', (callFunc f args).run P w = .ok (.value v) w' ∧ R v w'
theorem AV6.mono {P : Program} {f : FuncId} {args : Array Value} {w : World} {R R' : Value → World → Prop} (h : AV6 P f args w R) (hr : ∀ v w', R v w' → R' v w') : AV6 P f args w R' := by
 rcases h with ⟨fn, h1, h2, h3, h4⟩ | ⟨v, w', h1, h2⟩
 ·exact .inl ⟨fn, h1, h2, h3, h4.mono fun e w' he => by cases e <;> first | exact hr _ _ he | exact he⟩
 ·exact .inr ⟨v, w', h1, hr _ _ h2⟩
section
variable (S : Nat → Prop) (β : Key → Option Nat) (w : World)
def vV : List Mode → List Dyn → List (List Value) → Nat → Prop
 | [], [], [], _ => True
 | .ro t :: ms, d :: ds, c :: cs, i => d.t = t ∧ Rd S w d.t d.x c ∧ vV ms ds cs (i + 1)
 | .mv t f :: ms, d :: ds, c :: cs, i => d.t = t ∧ f.nopin = true ∧ zP S β noH w [i] d.t f d.x c ∧ vV ms ds cs (i + 1)
 | .io t f fo _ _ :: ms, d :: ds, c :: cs, i => d.t = t ∧ (f.nopin = true ∧ fo.nopin = true) ∧ zP S β noH w [i] d.t f d.x c ∧ vV ms ds cs (i + 1)
 | _, _, _, _ => False
def zZ : List Dyn → List (List Value) → List Value
 | d :: ds, c :: cs => zX d.t c :: zZ ds cs
 | _, _ => []
def AI8 : List Mode → List (List Value) → Nat → (t : Ty) → t.D → Prop
 | [], [], _, _, _ => True
 | .io t _ fo _ _ :: ms, c :: cs, i, .pair a b, x => a = t ∧ zP S β noH w [2 * i + 1] a fo x.1 c ∧ AI8 ms cs (i + 1) b x.2
 | .ro _ :: ms, _ :: cs, i, t, x => AI8 ms cs (i + 1) t x
 | .mv _ _ :: ms, _ :: cs, i, t, x => AI8 ms cs (i + 1) t x
 | _, _, _, _, _ => False
def qZ : Nat → Nat → (t : Ty) → Fl → t.D → List (List Value) → Prop
 | 0, _, _, _, _, [] => True
 | n + 1, k, .pair a b, f, x, c :: cs => zP S β noH w [2 * k] a f.l x.1 c ∧ qZ n (k + 1) b f.r x.2 cs
 | _, _, _, _, _, _ => False
end
def nU : Nat → Ty → List (List Value) → List Value
 | n + 1, .pair a b, c :: cs => zX a c :: nU n b cs
 | _, _, _ => []
def AY5 : List Value → Value
 | [v] => v
 | vs => .tuple vs.toArray
def Ret (c : FCfg) (x : c.rt.D) (cs : List (List Value)) (w : World) (S : Nat → Prop) (β : Key → Option Nat) (v : Value) (w' : World) : Prop :=
 ∃ S' β' crs, Sane w' S' β' ∧ Step w S β w' S' β' ∧ qZ S' β' w' c.nres 0 c.rt c.rf x crs ∧ v = AY5 (nU c.nres c.rt crs) ∧ AI8 S' β' w' c.modes cs 0 (A02 c.nres c.rt) (A9w c.nres c.rt x)
def BE7 (E : Env) (f : FuncId) (ds : List Dyn) (x : (E.cfg f).rt.D) : Prop :=
 ∀ (w : World) (S : Nat → Prop) (β : Key → Option Nat) (cs : List (List Value)), Sane w S β → vV S β w (E.cfg f).modes ds cs 0 →
  AV6 E.P f (zZ ds cs).toArray w (Ret (E.cfg f) x cs w S β)
def Al0 (E : Env) (R : Run E) : Prop := ∀ f ds x, R f ds = some x → BE7 E f ds x
end Go.Rf

end
section
namespace Go.Rf
set_option linter.unusedSectionVars false
variable [T : Laid]
section
variable {P : Program} {H : Nat → Option (List Value)} {N : Nat} {g g' G σ : zY} {V V' V0 : Nat → Option Value} {w w' : World} {S S' : Nat → Prop} {β β' : Key → Option Nat} {a : Act} {o : Oper}
variable {E : Env} {gv : zY} {us : List Up}
structure HeldIo (N : Nat) (w : World) (G : zY) (V V0 : Nat → Option Value) (x : Operand) (t : Ty) (f fo : Fl) (d : Dyn) (o : Io) (k : Nat) : Prop where
 np : f.nopin = true ∧ fo.nopin = true
 at_ : ∃ d0 : Dat, yO o.p o.e.t o.e.f o.e.x = some d0 ∧ d0.t = t ∧ d0.f.base = f ∧ d = ⟨d0.t, d0.x⟩ ∧
  ∀ cr L c, V0 o.r = some (zX o.e.t cr) → cr.length = o.e.t.size → vT w o.e.t (.reg cr) o.p = some (d0.t, L) → zF w d0.t.size L = some c → evl V0 x = some (zX d0.t c)
 ne : f.base ≠ .gone
 inb : inB o.p o.e.t o.e.x
 sv : (G (N + k)).sv = .dat o.e
 lt : o.r < N
 val : V (N + k) = V0 o.r
def kV (N : Nat) (w : World) (G : zY) (V V0 : Nat → Option Value) : List Mode → List Operand → List (Option Dyn) → List Io → Nat → Prop
 | [], [], [], [], _ => True
 | .ro _ :: ms, _ :: xs, none :: hs, rs, k => kV N w G V V0 ms xs hs rs (k + 1)
 | .mv t f :: ms, x :: xs, some d :: hs, rs, k => d.t = t ∧ f.nopin = true ∧ (G (N + k)).sv = .dat ⟨d.t, d.x, f⟩ ∧ V (N + k) = evl V0 x ∧ kV N w G V V0 ms xs hs rs (k + 1)
 | .io t f fo _ _ :: ms, x :: xs, some d :: hs, o :: rs, k => HeldIo N w G V V0 x t f fo d o k ∧ kV N w G V V0 ms xs hs rs (k + 1)
 | _, _, _, _, _ => False
theorem BC0 {i : Nat} {u : Up} (h : g i = g' i) : (g.up u) i = (g'.up u) i := by
 by_cases e : i = u.slot
 ·subst e; rw [oH, oH, h]
 ·rw [rI e, rI e, h]
theorem A0V {i : Nat} : ∀ {us : List Up} {g g' : zY}, g i = g' i → (g.ups us) i = (g'.ups us) i
 | [], _, _, h => h
 | u :: us, _, _, h => by simp only [zY.ups]; exact A0V (BC0 h)
theorem A2c {i : Nat} : ∀ {us : List Up} {g : zY}, (∀ u ∈ us, u.slot ≠ i) → (g.ups us) i = g i
 | [], _, _ => rfl
 | u :: us, g, h => by
  simp only [zY.ups]
  rw [A2c fun v hv => h v (by simp [hv]), rI (fun e => h u (by simp) e.symm)]
theorem Sub.hand {n : Nat} {d : Dat} (h : Sub g G) (hn : (g n).sv = .dead) : Sub g (upN G n d) := fun i => by
 by_cases e : i = n
 ·subst e; exact .inl hn
 ·exact (h i).imp id fun h => by rw [gB e]; exact h
theorem Sub.rfl' : Sub g g := fun _ => .inr rfl
theorem Rel.weakenHand {r : Nat} {e : Dat} {f : Fl} (h : Rel H N g V w S β) (he : (g r).sv = .dat e) (hf : Fl.le f e.f = true) :
  Rel H N (upN g r ⟨e.t, e.x, f⟩) V w (BT0 S β r e.t f) (A51 β r e.t f) := by
 refine Rel.put h (h.sane.pub r e.t f) (fun b hb => ⟨.inl hb, rfl⟩) (fun j s b hj _ hb => ⟨by simp [A51, hj, hb], rfl⟩) (fun _ _ => rfl) ?_
 obtain ⟨c, hv, hV⟩ := h.dat he
 refine ⟨c, ?_, hV⟩
 refine AA5 (fun b hb => ⟨.inl hb, rfl⟩) hf (fun s b hb => ⟨rfl, fun ho => ?_, fun ho => .inr ⟨s, hb, ho⟩⟩) hv
 simp only [List.cons_append, List.nil_append] at hb ⊢
 simp [A51, ho, hb]
theorem AH1 : ∀ {p q : List PS} {t : Ty} {x : t.D}, inB (p ++ q) t x → inB p t x
 | [], _, _, _, _ => by simp [inB]
 | .fst :: p, q, .pair _ _, x, h => by simp only [List.cons_append, inB] at h ⊢; exact AH1 (p := p) h
 | .snd :: p, q, .pair _ _, x, h => by simp only [List.cons_append, inB] at h ⊢; exact AH1 (p := p) h
 | .der :: p, q, .ptr _, x, h => by simp only [List.cons_append, inB] at h ⊢; exact AH1 (p := p) h
 | .idx i :: p, q, .arr _ _, x, h => by simp only [List.cons_append, inB] at h ⊢; exact ⟨h.1, AH1 (p := p) h.2⟩
 | .elm i :: p, q, .sl _, x, h => by simp only [List.cons_append, inB] at h ⊢; exact ⟨h.1, AH1 (p := p) h.2⟩
 | .fst :: p, q, .int _, _, h | .fst :: p, q, .bool, _, h | .fst :: p, q, .str, _, h | .fst :: p, q, .fn, _, h | .fst :: p, q, .unit, _, h | .fst :: p, q, .sl _, _, h | .fst :: p, q, .ptr _, _, h | .fst :: p, q, .arr _ _, _, h => by simp [inB] at h
 | .snd :: p, q, .int _, _, h | .snd :: p, q, .bool, _, h | .snd :: p, q, .str, _, h | .snd :: p, q, .fn, _, h | .snd :: p, q, .unit, _, h | .snd :: p, q, .sl _, _, h | .snd :: p, q, .ptr _, _, h | .snd :: p, q, .arr _ _, _, h => by simp [inB] at h
 | .der :: p, q, .int _, _, h | .der :: p, q, .bool, _, h | .der :: p, q, .str, _, h | .der :: p, q, .fn, _, h | .der :: p, q, .unit, _, h | .der :: p, q, .sl _, _, h | .der :: p, q, .pair _ _, _, h | .der :: p, q, .arr _ _, _, h => by simp [inB] at h
 | .idx _ :: p, q, .int _, _, h | .idx _ :: p, q, .bool, _, h | .idx _ :: p, q, .str, _, h | .idx _ :: p, q, .fn, _, h | .idx _ :: p, q, .unit, _, h | .idx _ :: p, q, .sl _, _, h | .idx _ :: p, q, .pair _ _, _, h | .idx _ :: p, q, .ptr _, _, h => by simp [inB] at h
 | .elm _ :: p, q, .int _, _, h | .elm _ :: p, q, .bool, _, h | .elm _ :: p, q, .str, _, h | .elm _ :: p, q, .fn, _, h | .elm _ :: p, q, .unit, _, h | .elm _ :: p, q, .arr _ _, _, h | .elm _ :: p, q, .pair _ _, _, h | .elm _ :: p, q, .ptr _, _, h => by simp [inB] at h
theorem BA2 {x : Operand} {q : Pl} {e d : Dat} (h : Rel H N g V w S β) (hr : A6l g x (sv g x) = some q) (he : (g q.1).sv = .dat e) (hg : yO q.2 e.t e.f e.x = some d) :
  inB q.2 e.t e.x ∧ ∀ cr L c, V q.1 = some (zX e.t cr) → cr.length = e.t.size → vT w e.t (.reg cr) q.2 = some (d.t, L) → zF w d.t.size L = some c → evl V x = some (zX d.t c) := by
 cases hx : sv g x with
 | dat e' =>
  rw [hx] at hr
  simp only [A6l] at hr
  split at hr
  ·simp only [Option.some.injEq] at hr; subst hr
   simp only [yO, Option.some.injEq] at hg; subst hg
   refine ⟨by simp [inB], fun cr L c h1 h2 h3 h4 => ?_⟩
   simp only [vT, Option.some.injEq, Prod.mk.injEq, true_and] at h3
   subst h3
   obtain ⟨rfl, _⟩ := Ah2 h4
   exact h1
  ·cases hr
 | als r' p c' s =>
  rw [hx] at hr
  obtain ⟨i, rfl, hi⟩ := uP hx (by simp) (by simp) (by simp)
  simp only [A6l] at hr
  split at hr
  ·rename_i hok
   simp only [Option.some.injEq] at hr; subst hr
   obtain ⟨_, hb, _, cr, L, c2, k1, k2, k3, k4, k5, k6, k7⟩ := h.als hi hok he hg
   refine ⟨hb, fun cr' L' c h1 h2 h3 h4 => ?_⟩
   have := uR (Option.some.inj (k1.symm.trans h1)) k2 h2
   subst this
   rw [k4] at h3
   simp only [Option.some.injEq, Prod.mk.injEq, true_and] at h3
   subst h3
   rw [k5] at h4
   simp only [Option.some.injEq] at h4
   subst h4
   exact k7
  ·cases hr
 | adr r' p c' s =>
  rw [hx] at hr
  obtain ⟨i, rfl, hi⟩ := uP hx (by simp) (by simp) (by simp)
  simp only [A6l] at hr
  split at hr
  ·rename_i hok
   split at hr
   ·rename_i q' hrev
    simp only [Option.some.injEq] at hr; subst hr
    have hp : p = q'.reverse ++ [.der] := by have := congrArg List.reverse hrev; simpa using this
    subst hp
    have hs := h.slots i
    rw [hi] at hs
    obtain ⟨_, _, _, hs⟩ := hs
    obtain ⟨cr, t, b, o, k1, k2, k3, k4, k5, _⟩ := hs hok e he
    refine ⟨AH1 k5, fun cr' L c h1 h2 h3 h4 => ?_⟩
    have := uR (Option.some.inj (k1.symm.trans h1)) k2 h2
    subst this
    rw [jB h3] at k3
    simp only [evl]
    rw [k4]
    obtain ⟨dt, dx, df⟩ := d
    cases dt with
    | ptr τ =>
     simp only [Ty.size] at h4
     simp only [vT, xT, h4] at k3
     split at k3
     ·rename_i t' L' he'
      simp only [Option.some.injEq, Prod.mk.injEq] at k3
      obtain ⟨rfl, rfl⟩ := k3
      split at he'
      ·rename_i b' hq
       simp only [Option.some.injEq, Prod.mk.injEq, Loc.mem.injEq] at he' hq
       obtain ⟨_, rfl, rfl⟩ := he'
       subst hq
       rfl
      ·cases he'
     ·cases k3
    | _ => simp [vT, xT] at k3
   ·cases hr
  ·cases hr
 | _ => rw [hx] at hr; simp [A6l] at hr
theorem BP6 {x : Operand} {q : Pl} (hs : Sub g G) (h : A6l g x (sv g x) = some q) (hd : (g q.1).sv ≠ .dead) : A6l G x (sv G x) = some q := by
 cases hx : sv g x with
 | dat e => rw [hs.sv hx (by simp)]; rw [hx] at h; exact h
 | als r' p c s =>
  rw [hs.sv hx (by simp)]; rw [hx] at h
  simp only [A6l] at h ⊢
  split at h
  ·rename_i hok
   simp only [Option.some.injEq] at h; subst h
   rw [Sub.okA (hs.get rfl hd), hok]; rfl
  ·cases h
 | adr r' p c s =>
  rw [hs.sv hx (by simp)]; rw [hx] at h
  simp only [A6l] at h ⊢
  split at h
  ·rename_i hok
   split at h
   ·rename_i q' hrev
    simp only [Option.some.injEq] at h; subst h
    rw [Sub.okB (hs.get rfl hd), hok]; rfl
   ·cases h
  ·cases h
 | _ => rw [hx] at h; simp [A6l] at h
theorem A3F {x : Operand} (hD : yH N g) (hx : sv g x ≠ .dead) (hV : ∀ i, i < N → V i = V' i) : evl V x = evl V' x := by
 cases x with
 | tmp s => exact hV s (hD.lt hx)
 | _ => rfl
theorem AO6 {share : Bool} : ∀ {ms : List Mode} {xs : List Operand} {g : zY} {p : Prep} {k : Nat} {V : Nat → Option Value} {G : zY} {S : Nat → Prop} {β : Key → Option Nat},
  Rel H N G V w S β → Sub g G → yH N g → (∀ i, N + k ≤ i → (G i).sv = .dead) → (∀ i, i < N → V i = V0 i) → AL7 share ms xs g = some p →
  ∃ G' V' S' β', Rel H N G' V' w S' β' ∧ Step w S β w S' β' ∧ Sub p.g G' ∧ yH N p.g ∧ (∀ i, i < N → G' i = (G.ups p.ups) i) ∧ (∀ i, i < N + k → V' i = V i) ∧
   (∀ i, N ≤ i → i < N + k → G' i = G i) ∧ kV N w G' V' V0 ms xs p.hands p.ios k ∧ ∀ u ∈ p.ups, u.slot < N
 | [], [], g, p, k, V, G, S, β, h, hs, hD, hd, hV, hp => by
  simp only [AL7, Option.some.injEq] at hp; subst hp
  exact ⟨G, V, S, β, h, .refl, hs, hD, fun _ _ => rfl, fun _ _ => rfl, fun _ _ _ => rfl, by simp [kV], by simp⟩
 | [], _ :: _, _, _, _, _, _, _, _, _, _, _, _, _, hp => by simp [AL7] at hp
 | _ :: _, [], _, _, _, _, _, _, _, _, _, _, _, _, hp => by simp [AL7] at hp
 | m :: ms, x :: xs, g, p, k, V, G, S, β, h, hs, hD, hd, hV, hp => by
  simp only [AL7] at hp
  split at hp
  ·rename_i hnd us rs ho
   obtain ⟨p', hp', rfl⟩ := Option.map_eq_some_iff.1 hp
   have go : ∀ (G1 : zY) (V1 : Nat → Option Value) (S1 : Nat → Prop) (β1 : Key → Option Nat), Rel H N G1 V1 w S1 β1 → Step w S β w S1 β1 → Sub (g.ups us) G1 → (∀ u ∈ us, u.slot < N) →
     (∀ i, i ≠ N + k → G1 i = (G.ups us) i) → (∀ i, i ≠ N + k → V1 i = V i) →
     (∀ (G' : zY) (V' : Nat → Option Value), G' (N + k) = G1 (N + k) → V' (N + k) = V1 (N + k) → kV N w G' V' V0 ms xs p'.hands p'.ios (k + 1) → kV N w G' V' V0 (m :: ms) (x :: xs) (hnd :: p'.hands) (rs ++ p'.ios) k) →
     ∃ G' V' S' β', Rel H N G' V' w S' β' ∧ Step w S β w S' β' ∧ Sub p'.g G' ∧ yH N p'.g ∧ (∀ i, i < N → G' i = (G.ups (us ++ p'.ups)) i) ∧ (∀ i, i < N + k → V' i = V i) ∧
      (∀ i, N ≤ i → i < N + k → G' i = G i) ∧ kV N w G' V' V0 (m :: ms) (x :: xs) (hnd :: p'.hands) (rs ++ p'.ios) k ∧ ∀ u ∈ us ++ p'.ups, u.slot < N := by
    intro G1 V1 S1 β1 h1 hst hs1 hlt hG hV1 hhd
    have hfar : ∀ i, N ≤ i → (G.ups us) i = G i := fun i hi => A2c fun u hu e => by have := hlt u hu; omega
    obtain ⟨G', V', S', β', r1, r2, r3, r4, r5, r6, r7, r8, r9⟩ := AO6 (k := k + 1) h1 hs1 (hD.ups hlt) (fun i hi => by rw [hG i (by omega), hfar i (by omega)]; exact hd i (by omega))
     (fun i hi => by rw [hV1 i (by omega)]; exact hV i hi) hp'
    refine ⟨G', V', S', β', r1, hst.trans r2, r3, r4, fun i hi => ?_, fun i hi => ?_, fun i h1 h2 => ?_, hhd G' V' (r7 _ (by omega) (by omega)) (r6 _ (by omega)) r8, fun u hu => ?_⟩
    ·rw [r5 i hi, yW]; exact A0V (hG i (by omega))
    ·rw [r6 i (by omega), hV1 i (by omega)]
    ·rw [r7 i h1 (by omega), hG i (by omega), hfar i h1]
    ·rcases List.mem_append.1 hu with hu | hu
     ·exact hlt u hu
     ·exact r9 u hu
   have hgn : (g (N + k)).sv = .dead := hD _ (by omega)
   have hGn : (G (N + k)).sv = .dead := hd _ (Nat.le_refl _)
   cases m with
   | ro t =>
    simp only [A42] at ho
    have plain : (none, [], []) = (hnd, us, rs) → ∃ G' V' S' β', Rel H N G' V' w S' β' ∧ Step w S β w S' β' ∧ Sub p'.g G' ∧ yH N p'.g ∧ (∀ i, i < N → G' i = (G.ups (us ++ p'.ups)) i) ∧ (∀ i, i < N + k → V' i = V i) ∧
      (∀ i, N ≤ i → i < N + k → G' i = G i) ∧ kV N w G' V' V0 (.ro t :: ms) (x :: xs) (hnd :: p'.hands) (rs ++ p'.ios) k ∧ ∀ u ∈ us ++ p'.ups, u.slot < N := fun e => by
     simp only [Prod.mk.injEq] at e
     obtain ⟨rfl, rfl, rfl⟩ := e
     exact go G V S β h .refl hs (by simp) (fun _ _ => rfl) (fun _ _ => rfl) (fun G' V' _ _ hh => hh)
    split at ho
    ·split at ho
     ·simp only [Option.some.injEq] at ho; exact plain ho
     ·split at ho
      ·rename_i d hdat
       obtain ⟨us', hpub, e⟩ := Option.map_eq_some_iff.1 ho
       simp only [Prod.mk.injEq] at e
       obtain ⟨rfl, rfl, rfl⟩ := e
       obtain ⟨hpub', hsub', _⟩ := eQ hs hpub
       obtain ⟨_, _, halive⟩ := eQ Sub.rfl' hpub
       obtain ⟨S1, β1, c, q1, q2, _, _⟩ := bT h hpub' (uV hs hdat)
       exact go _ V S1 β1 q1 q2 hsub' (fun u hu => hD.lt (halive u hu)) (fun _ _ => rfl) (fun _ _ => rfl) (fun G' V' _ _ hh => hh)
      ·cases ho
    ·simp only [Option.some.injEq] at ho; exact plain ho
   | mv t f =>
    simp only [A42] at ho
    split at ho
    ·rename_i d us' ht
     split at ho
     ·rename_i hc
      simp only [Option.some.injEq, Prod.mk.injEq] at ho
      obtain ⟨rfl, rfl, rfl⟩ := ho
      simp only [Bool.and_eq_true, decide_eq_true_eq] at hc
      obtain ⟨⟨hdt, hle⟩, hnp⟩ := hc
      obtain ⟨ht', hsub'⟩ := dP hs ht
      have hlt : ∀ u ∈ us', u.slot < N := fun u hu => hD.lt (fB ht u hu)
      obtain ⟨S1, β1, c, q1, q2, q3, q4⟩ := gZ (n := N + k) h ht' hGn (by omega)
      have q5 := q1.weakenHand gL hle
      have hdn : ((g.ups us') (N + k)).sv = .dead := hD.ups hlt _ (by omega)
      refine go _ _ _ _ q5 (q2.trans (.pub _ _ _)) ((hsub'.hand hdn).hand hdn) hlt (fun i hi => by rw [gB hi, gB hi]) (fun i hi => by simp [upd, hi]) ?_
      intro G' V' e1 e2 hh
      refine ⟨hdt, hnp, by rw [e1]; exact gL, ?_, hh⟩
      rw [e2, ← A3F hD (fun e => by rw [e] at ht; simp [take] at ht) hV, q3]; simp [upd]
     ·cases ho
    ·cases ho
   | io t f fo sl pa =>
    simp only [A42] at ho
    split at ho
    ·rename_i q hr
     split at ho
     ·rename_i e hdat
      split at ho
      ·rename_i d hg
       split at ho
       ·rename_i hc
        simp only [Option.some.injEq, Prod.mk.injEq] at ho
        obtain ⟨rfl, rfl, rfl⟩ := ho
        simp only [Bool.and_eq_true, decide_eq_true_eq, Bool.not_eq_true'] at hc
        obtain ⟨⟨⟨⟨hdt, hfb⟩, hnp⟩, hnp'⟩, hng⟩ := hc
        have hnb : f.base ≠ .gone := uT hng
        have hGr : G q.1 = g q.1 := hs.get rfl (by rw [hdat]; simp)
        have hGd : (G q.1).sv = .dat e := by rw [hGr]; exact hdat
        have hrN : q.1 < N := hD.lt (i := q.1) (by rw [hdat]; simp)
        have hrn : N + k ≠ q.1 := by omega
        obtain ⟨hinb, hval⟩ := BA2 h (BP6 hs hr (by rw [hdat]; simp)) hGd hg
        obtain ⟨c, hvr, hVr⟩ := h.dat hGd
        have q1 : Rel H N (G.up (.put q.1 .dead)) V w S β := h.kill fun _ _ => rfl
        have hd1 : ((G.up (.put q.1 .dead)) q.1).sv = .dead := by rw [show G.up (.put q.1 .dead) q.1 = _ from oH (u := .put q.1 .dead)]; rfl
        have hd2 : ((G.up (.put q.1 .dead)) (N + k)).sv = .dead := by rw [rI (u := .put q.1 .dead) hrn]; exact hGn
        have q2 := (q1.rekey [] hd1 hd2).hand (n := N + k) (d := e) (c := c) (pG hvr)
        have hsx : sv g x ≠ .dead := fun e => by rw [e] at hr; simp [A6l] at hr
        have hlt : ∀ u ∈ [Up.put q.1 .dead], u.slot < N := fun u hu => by rw [List.mem_singleton.1 hu]; exact hrN
        have hdn : ((g.ups [Up.put q.1 .dead]) (N + k)).sv = .dead := hD.ups hlt _ (by omega)
        have hsub1 : Sub (g.ups [Up.put q.1 .dead]) (G.ups [Up.put q.1 .dead]) := hs.upD
        refine go _ _ _ _ q2 (.rekey _ _) (hsub1.hand hdn) hlt (fun i hi => by rw [gB hi]; rfl) (fun i hi => by simp [upd, hi]) ?_
        intro G' V' e1 e2 hh
        have hx0 : evl V x = evl V0 x := A3F hD hsx hV
        exact ⟨⟨⟨hnp, hnp'⟩, ⟨d, hg, hdt, hfb, rfl, fun cr L c h1 h2 h3 h4 => by rw [← hx0]; exact hval cr L c (by rw [hV _ hrN]; exact h1) h2 h3 h4⟩, hnb, hinb, by rw [e1]; exact gL, hrN, by rw [e2, ← hV _ hrN, hVr]; simp [upd]⟩, hh⟩
       ·cases ho
      ·cases ho
     ·cases ho
    ·cases ho
  ·cases hp
end
end Go.Rf

end
section
namespace Go.Rf
set_option linter.unusedSectionVars false
variable [T : Laid]
section
variable {P : Program} {H : Nat → Option (List Value)} {N : Nat} {g g' G σ : zY} {V V' V0 : Nat → Option Value} {w w' : World} {S S' : Nat → Prop} {β β' : Key → Option Nat} {a : Act} {o : Oper}
variable {E : Env} {gv : zY} {us : List Up}
theorem AV7 : ∀ {rs : List (Nat × Nat)} {cs : FCaps}, cQ g rs = some cs → ∀ x ∈ rs, (g x.1).sv ≠ .dead
 | [], _, _ => by simp
 | (r, s) :: rs, cs, h => by
  simp only [cQ] at h
  intro x hx
  split at h
  ·rename_i he
   split at h
   ·obtain ⟨cs', h, _⟩ := Option.map_eq_some_iff.1 h
    rcases List.mem_cons.1 hx with rfl | hx
    ·simp [he]
    ·exact AV7 h x hx
   ·cases h
  ·rename_i he
   split at h
   ·obtain ⟨cs', h, _⟩ := Option.map_eq_some_iff.1 h
    rcases List.mem_cons.1 hx with rfl | hx
    ·simp [he]
    ·exact AV7 h x hx
   ·cases h
  ·cases h
theorem A5u {x : Operand} {d : Dat} (h : yR g (sv g x) = some d) : ∀ r ∈ gD g x (sv g x), (g r).sv ≠ .dead := by
 cases hx : sv g x with
 | dat e =>
  simp only [gD]
  split
  ·simp
  ·split
   ·rename_i s
    intro r hr
    rw [List.mem_singleton.1 hr]
    have : (g s).sv = .dat e := hx
    rw [this]; simp
   ·simp
 | als r p c s =>
  simp only [gD]
  split
  ·rename_i d hd
   split
   ·simp
   ·intro r' hr
    rw [List.mem_singleton.1 hr]
    obtain ⟨e, he, _⟩ := iB hd
    rw [he]; simp
  ·simp
 | pend r p c s u e =>
  rw [hx] at h
  simp only [yR] at h
  split at h
  ·split at h
   ·rename_i e' he
    intro r' hr
    simp only [gD, List.mem_append, List.mem_singleton] at hr
    rcases hr with hr | rfl
    ·split at hr
     ·rename_i i
      rw [List.mem_singleton.1 hr]
      have : (g i).sv = _ := hx
      rw [this]; simp
     ·cases hr
    ·rw [he]; simp
   ·cases h
  ·cases h
 | clo f rs =>
  rw [hx] at h
  simp only [yR, Option.map_eq_some_iff] at h
  obtain ⟨cs, hc, _⟩ := h
  intro r hr
  simp only [gD, List.mem_map] at hr
  obtain ⟨y, hy, rfl⟩ := hr
  exact AV7 hc y hy
 | _ => simp [gD]
theorem A8x {x : Operand} {d : Dat} (hs : Sub g G) (h : yR g (sv g x) = some d) : gD G x (sv G x) = gD g x (sv g x) := by
 have hn : sv g x ≠ .dead := fun e => by rw [e] at h; simp [yR] at h
 rw [hs.sv rfl hn]
 cases hx : sv g x with
 | als r p c s =>
  rw [hx] at h
  simp only [yR] at h
  split at h
  ·split at h
   ·rename_i d' hd
    simp only [gD]
    rw [hd, (hs.atP hd).1]
   ·cases h
  ·cases h
 | _ => rfl
structure BackIo (H : Nat → Option (List Value)) (N : Nat) (S : Nat → Prop) (β : Key → Option Nat) (w : World) (V0 : Nat → Option Value) (t : Ty) (fo : Fl) (c : List Value) (o : Io) (k : Nat) : Prop where
 lt : o.r < N
 np : fo.nopin = true
 at_ : ∃ (d0 : Dat) (cr : List Value) (L : Loc), yO o.p o.e.t o.e.f o.e.x = some d0 ∧ d0.t = t ∧ d0.f.base ≠ .gone ∧ inB o.p o.e.t o.e.x ∧ V0 o.r = some (zX o.e.t cr) ∧
  zP S β H w [N + k] o.e.t o.e.f o.e.x cr ∧ vT w o.e.t (.reg cr) o.p = some (d0.t, L) ∧ zF w d0.t.size L = some c ∧ pX H d0.f c
def mE (H : Nat → Option (List Value)) (N : Nat) (S : Nat → Prop) (β : Key → Option Nat) (w : World) (V0 : Nat → Option Value) : List Mode → List (List Value) → List Io → Nat → Prop
 | [], [], [], _ => True
 | .ro _ :: ms, _ :: cs, rs, k => mE H N S β w V0 ms cs rs (k + 1)
 | .mv _ _ :: ms, _ :: cs, rs, k => mE H N S β w V0 ms cs rs (k + 1)
 | .io t _ fo _ _ :: ms, c :: cs, o :: rs, k => BackIo H N S β w V0 t fo c o k ∧ mE H N S β w V0 ms cs rs (k + 1)
 | _, _, _, _ => False
def AW7 : List Mode → List Io → Nat → Nat → Key
 | .io _ _ _ _ _ :: ms, o :: os, i, j => if j = i then xK o.p else AW7 ms os (i + 1) j
 | .ro _ :: ms, os, i, j => AW7 ms os (i + 1) j
 | .mv _ _ :: ms, os, i, j => AW7 ms os (i + 1) j
 | _, _, _, _ => []
theorem A0J : ∀ {ms : List Mode} {os : List Io} {i j : Nat}, j < i → AW7 ms os i j = []
 | .io _ _ _ _ _ :: ms, o :: os, i, j, h => by simp only [AW7]; rw [if_neg (by omega)]; exact A0J (by omega)
 | .ro _ :: ms, os, i, j, h => by simp only [AW7]; exact A0J (by omega)
 | .mv _ _ :: ms, os, i, j, h => by simp only [AW7]; exact A0J (by omega)
 | [], _, _, _, _ => by simp [AW7]
 | .io _ _ _ _ _ :: _, [], _, _, _ => by simp [AW7]
def AL6 (N : Nat) (ks : Nat → Key) (β : Key → Option Nat) : Key → Option Nat
 | i :: s => β ((N + i) :: (ks i ++ s))
 | [] => none
theorem iN {ks : Nat → Key} : ∀ {ms : List Mode} {xs : List Operand} {hs : List (Option Dyn)} {rs : List Io} {k : Nat} {ds : List Dyn} {lent : List Nat},
  Rel H N G V w S β → Sub g G → yH N g → (∀ i, i < N → V i = V0 i) → kV N w G V V0 ms xs hs rs k → (∀ j, k ≤ j → ks j = AW7 ms rs k j) → kA g ms xs hs = some (ds, lent) →
  ∃ cs : List (List Value), xs.map (evl V0 ·) = (zZ ds cs).map some ∧ (∀ r ∈ lent, r < N) ∧ mE H N S β w V0 ms cs rs k ∧
   ∀ L : List Nat, (∀ r ∈ lent, r ∈ L) → vV (At6 S β L) (AL6 N ks β) w ms ds cs k
 | [], [], [], rs, k, ds, lent, h, hs, hD, hV, hh, hk, hd => by
  simp only [kA, Option.some.injEq, Prod.mk.injEq] at hd
  obtain ⟨rfl, rfl⟩ := hd
  refine ⟨[], by simp [zZ], by simp, ?_, fun L _ => by simp [vV]⟩
  cases rs with
  | nil => simp [mE]
  | cons _ _ => simp [kV] at hh
 | .ro t :: ms, x :: xs, none :: hs', rs, k, ds, lent, h, hs, hD, hV, hh, hk, hd => by
  simp only [kV] at hh
  have hk' : ∀ j, k + 1 ≤ j → ks j = AW7 ms rs (k + 1) j := fun j hj => by rw [hk j (by omega)]; simp only [AW7]
  have nilcase : ∀ {τ : Ty}, sv g x = .nils → t = .sl τ → ((kA g ms xs hs').map fun r => ((⟨.sl τ, ([] : List τ.D)⟩ : Dyn) :: r.1, r.2)) = some (ds, lent) → ∃ cs : List (List Value), (x :: xs).map (evl V0 ·) = (zZ ds cs).map some ∧ (∀ r ∈ lent, r < N) ∧ mE H N S β w V0 (.ro t :: ms) cs rs k ∧
    ∀ L : List Nat, (∀ r ∈ lent, r ∈ L) → vV (At6 S β L) (AL6 N ks β) w (.ro t :: ms) ds cs k := by
   intro τ hx ht hq
   obtain ⟨r, hr, e⟩ := Option.map_eq_some_iff.1 hq
   subst ht
   simp only [Prod.mk.injEq] at e
   obtain ⟨rfl, rfl⟩ := e
   obtain ⟨cs, h1, h2, h3, h4⟩ := iN (k := k + 1) h hs hD hV hh hk' hr
   refine ⟨[.slice none 0 0] :: cs, ?_, h2, h3, fun L hL => ⟨rfl, ?_, h4 L hL⟩⟩
   ·rcases dU (hs.sv hx (by simp)) with ⟨s, rfl, hss⟩ | rfl
    ·have := h.slots s
     rw [hss] at this; exact this.elim
    ·simp only [List.map_cons, zZ, h1]; rfl
   ·simp only [Rd]
    exact ⟨none, 0, rfl, Nat.le_refl _, .inl rfl⟩
  have datcase : ∀ {d : Dat}, yR g (sv g x) = some d → d.t = t → ((kA g ms xs hs').map fun r => ((⟨d.t, d.x⟩ : Dyn) :: r.1, gD g x (sv g x) ++ r.2)) = some (ds, lent) → ∃ cs : List (List Value), (x :: xs).map (evl V0 ·) = (zZ ds cs).map some ∧ (∀ r ∈ lent, r < N) ∧ mE H N S β w V0 (.ro t :: ms) cs rs k ∧
    ∀ L : List Nat, (∀ r ∈ lent, r ∈ L) → vV (At6 S β L) (AL6 N ks β) w (.ro t :: ms) ds cs k := by
   intro d hx ht hq
   obtain ⟨r, hr, e⟩ := Option.map_eq_some_iff.1 hq
   simp only [Prod.mk.injEq] at e
   obtain ⟨rfl, rfl⟩ := e
   obtain ⟨cs, h1, h2, h3, h4⟩ := iN (k := k + 1) h hs hD hV hh hk' hr
   obtain ⟨c, hc, hrd⟩ := A20 h (uV hs hx)
   rw [A8x hs hx] at hrd
   refine ⟨c :: cs, ?_, fun r hr => ?_, h3, fun L hL => ⟨ht, ?_, h4 L fun r hr => hL r (List.mem_append_right _ hr)⟩⟩
   ·simp only [List.map_cons, zZ, h1]
    rw [← A3F hD (fun e => by rw [e] at hx; simp [yR] at hx) hV, hc]
   ·rcases List.mem_append.1 hr with hr | hr
    ·exact hD.lt (A5u hx r hr)
    ·exact h2 r hr
   ·exact zQ (fun b hb => ⟨hb.imp id fun ⟨r, hr, q⟩ => ⟨r, hL r (List.mem_append_left _ hr), q⟩, rfl⟩) hrd
  simp only [kA] at hd
  split at hd
  ·rename_i hx
   split at hd
   ·exact nilcase hx rfl hd
   ·cases hd
  ·split at hd
   ·rename_i d hx
    split at hd
    ·rename_i ht; exact datcase hx ht hd
    ·cases hd
   ·cases hd
 | .mv t f :: ms, x :: xs, some d :: hs', rs, k, ds, lent, h, hs, hD, hV, hh, hk, hd => by
  simp only [kV] at hh
  have hk' : ∀ j, k + 1 ≤ j → ks j = AW7 ms rs (k + 1) j := fun j hj => by rw [hk j (by omega)]; simp only [AW7]
  have hk0 : ks k = [] := by rw [hk k (Nat.le_refl _)]; simp only [AW7]; exact A0J (by omega)
  obtain ⟨h1, h2, h3, h4, hh⟩ := hh
  simp only [kA] at hd
  obtain ⟨r, hr, e⟩ := Option.map_eq_some_iff.1 hd
  simp only [Prod.mk.injEq] at e
  obtain ⟨rfl, rfl⟩ := e
  obtain ⟨cs, q1, q2, q3, q4⟩ := iN (k := k + 1) h hs hD hV hh hk' hr
  obtain ⟨c, hv, hc⟩ := h.dat h3
  refine ⟨c :: cs, ?_, q2, q3, fun L hL => ⟨h1, h2, ?_, q4 L hL⟩⟩
  ·simp only [List.map_cons, zZ, q1]
   rw [← h4, hc]
  ·exact dA h2 (zL (fun b hb => ⟨.inl hb, rfl⟩) (fun s b hb => ⟨by simpa [AL6, hk0] using hb, rfl⟩) hv)
 | .io t f fo sl pa :: ms, x :: xs, some d :: hs', rs, k, ds, lent, h, hs, hD, hV, hh, hk, hd => by
  cases rs with
  | nil => simp [kV] at hh
  | cons o rs =>
  simp only [kV] at hh
  have hk' : ∀ j, k + 1 ≤ j → ks j = AW7 ms rs (k + 1) j := fun j hj => by rw [hk j (by omega)]; simp only [AW7]; rw [if_neg (by omega)]
  have hk0 : ks k = xK o.p := by rw [hk k (Nat.le_refl _)]; simp only [AW7, if_true]
  obtain ⟨⟨hnp, ⟨d0, hg, hdt, hfb, rfl, hval⟩, hne, hinb, hsv, hlt, hv0⟩, hh⟩ := hh
  simp only [kA] at hd
  obtain ⟨r, hr, e⟩ := Option.map_eq_some_iff.1 hd
  simp only [Prod.mk.injEq] at e
  obtain ⟨rfl, rfl⟩ := e
  obtain ⟨cs, q1, q2, q3, q4⟩ := iN (k := k + 1) h hs hD hV hh hk' hr
  obtain ⟨cr, hvr, hVr⟩ := h.dat hsv
  have hl := zS hvr
  have hV0 : V0 o.r = some (zX o.e.t cr) := by rw [← hv0]; exact hVr
  have hgb : d0.f.base ≠ .gone := by
   rw [hfb]
   rw [cO hnp.1] at hne; exact hne
  obtain ⟨L, c, w1, w2, w3⟩ := A4V (L := .reg cr) hg hinb hgb (by simp [zF, hl]) hvr
  have hev := hval cr L c hV0 hl w1 w2
  refine ⟨c :: cs, ?_, q2, ⟨⟨hlt, hnp.2, d0, cr, L, hg, hdt, hgb, hinb, hV0, hvr, w1, w2, vM w3⟩, q3⟩, fun L hL => ⟨hdt, hnp, ?_, q4 L hL⟩⟩
  ·simp only [List.map_cons, zZ, q1, hev]
  ·refine dA (H := H) hnp.1 ?_
   rw [← hfb]
   exact gI (zL (fun b hb => ⟨.inl hb, rfl⟩) (fun s b hb => ⟨by simpa [AL6, hk0] using hb, rfl⟩) w3)
 | [], _ :: _, _, _, _, _, _, _, _, _, _, _, _, hd => by simp [kA] at hd
 | [], [], _ :: _, _, _, _, _, _, _, _, _, _, _, hd => by simp [kA] at hd
 | .ro _ :: _, [], _, _, _, _, _, _, _, _, _, _, _, hd => by simp [kA] at hd
 | .mv _ _ :: _, [], _, _, _, _, _, _, _, _, _, _, _, hd => by simp [kA] at hd
 | .io _ _ _ _ _ :: _, [], _, _, _, _, _, _, _, _, _, _, _, hd => by simp [kA] at hd
 | .ro _ :: _, _ :: _, [], _, _, _, _, _, _, _, _, _, _, hd => by simp [kA] at hd
 | .mv _ _ :: _, _ :: _, [], _, _, _, _, _, _, _, _, _, _, hd => by simp [kA] at hd
 | .io _ _ _ _ _ :: _, _ :: _, [], _, _, _, _, _, _, _, _, _, _, hd => by simp [kA] at hd
 | .ro _ :: _, _ :: _, some _ :: _, _, _, _, _, _, _, _, _, hh, _, _ => by simp [kV] at hh
 | .mv _ _ :: _, _ :: _, none :: _, _, _, _, _, _, _, _, _, hh, _, _ => by simp [kV] at hh
 | .io _ _ _ _ _ :: _, _ :: _, none :: _, _, _, _, _, _, _, _, _, hh, _, _ => by simp [kV] at hh
end
end Go.Rf

end
section
namespace Go.Rf
set_option linter.unusedSectionVars false
variable [T : Laid]
section
variable {P : Program} {H : Nat → Option (List Value)} {N : Nat} {g g' G σ : zY} {V V' V0 : Nat → Option Value} {w w' w2 : World} {S S' S2 : Nat → Prop} {β β' β2 : Key → Option Nat} {a : Act} {o : Oper}
variable {E : Env} {gv : zY} {us : List Up}
def eH : List Mode → List Io → Nat → Nat → Option (Nat × Key)
 | .io _ _ _ _ _ :: ms, o :: rs, i, j => if j = o.r then some (i, xK o.p) else eH ms rs (i + 1) j
 | .ro _ :: ms, rs, i, j => eH ms rs (i + 1) j
 | .mv _ _ :: ms, rs, i, j => eH ms rs (i + 1) j
 | _, _, _, _ => none
theorem AS7 : ∀ {ms : List Mode} {rs : List Io} {i j : Nat} {m : Nat × Key}, eH ms rs i j = some m → i ≤ m.1
 | .io _ _ _ _ _ :: ms, o :: rs, i, j, m, h => by
  simp only [eH] at h
  split at h
  ·simp only [Option.some.injEq] at h; subst h; exact Nat.le_refl _
  ·have := AS7 h; omega
 | .ro _ :: ms, rs, i, j, m, h => by simp only [eH] at h; have := AS7 h; omega
 | .mv _ _ :: ms, rs, i, j, m, h => by simp only [eH] at h; have := AS7 h; omega
 | [], _, _, _, _, h => by simp [eH] at h
 | .io _ _ _ _ _ :: _, [], _, _, _, h => by simp [eH] at h
theorem Ac7 : ∀ {ms : List Mode} {rs : List Io} {i j j' : Nat} {m m' : Nat × Key}, eH ms rs i j = some m → eH ms rs i j' = some m' → m.1 = m'.1 → j = j'
 | .io _ _ _ _ _ :: ms, o :: rs, i, j, j', m, m', h, h', e => by
  simp only [eH] at h h'
  split at h <;> split at h'
  ·rename_i e e'; rw [e, e']
  ·simp only [Option.some.injEq] at h; subst h; have := AS7 h'; simp only at e; omega
  ·simp only [Option.some.injEq] at h'; subst h'; have := AS7 h; simp only at e; omega
  ·exact Ac7 h h' e
 | .ro _ :: ms, rs, i, j, j', m, m', h, h', e => by simp only [eH] at h h'; exact Ac7 h h' e
 | .mv _ _ :: ms, rs, i, j, j', m, m', h, h', e => by simp only [eH] at h h'; exact Ac7 h h' e
 | [], _, _, _, _, _, _, h, _, _ => by simp [eH] at h
 | .io _ _ _ _ _ :: _, [], _, _, _, _, _, h, _, _ => by simp [eH] at h
theorem aC : ∀ {ms : List Mode} {rs : List Io} {i j : Nat} {m : Nat × Key}, eH ms rs i j = some m → j ∈ rs.map Io.r
 | .io _ _ _ _ _ :: ms, o :: rs, i, j, m, h => by
  simp only [eH] at h
  split at h
  ·rename_i e; simp [e]
  ·simp only [List.map_cons, List.mem_cons]; exact .inr (aC h)
 | .ro _ :: ms, rs, i, j, m, h => by simp only [eH] at h; exact aC h
 | .mv _ _ :: ms, rs, i, j, m, h => by simp only [eH] at h; exact aC h
 | [], _, _, _, _, h => by simp [eH] at h
 | .io _ _ _ _ _ :: _, [], _, _, _, h => by simp [eH] at h
theorem Ax5 : ∀ {ms : List Mode} {rs : List Io} {i j : Nat} {m : Nat × Key}, eH ms rs i j = some m → AW7 ms rs i m.1 = m.2
 | .io _ _ _ _ _ :: ms, o :: rs, i, j, m, h => by
  simp only [eH] at h
  simp only [AW7]
  split at h
  ·simp only [Option.some.injEq] at h; subst h; simp
  ·have := AS7 h; rw [if_neg (by omega)]; exact Ax5 h
 | .ro _ :: ms, rs, i, j, m, h => by simp only [eH] at h; simp only [AW7]; exact Ax5 h
 | .mv _ _ :: ms, rs, i, j, m, h => by simp only [eH] at h; simp only [AW7]; exact Ax5 h
 | [], _, _, _, _, h => by simp [eH] at h
 | .io _ _ _ _ _ :: _, [], _, _, _, h => by simp [eH] at h
def sH : Nat → Key → Option Key
 | k, 0 :: s => some (2 * k :: s)
 | k, 1 :: s => sH (k + 1) s
 | _, _ => none
theorem eO : ∀ {s : Key} {k : Nat} {q : Key}, sH k s = some q → ∃ m t, q = 2 * m :: t ∧ k ≤ m
 | [], _, _, h => by simp [sH] at h
 | 0 :: s, k, q, h => by simp only [sH, Option.some.injEq] at h; exact ⟨k, s, h.symm, Nat.le_refl _⟩
 | 1 :: s, k, q, h => by
  simp only [sH] at h
  obtain ⟨m, t, e, hm⟩ := eO h
  exact ⟨m, t, e, by omega⟩
 | (_ + 2) :: _, _, _, h => by simp [sH] at h
theorem Ah4 : ∀ {s s' : Key} {k : Nat} {q : Key}, sH k s = some q → sH k s' = some q → s = s'
 | 0 :: s, 0 :: s', k, q, h, h' => by
  simp only [sH, Option.some.injEq] at h h'
  rw [← h'] at h; simp only [List.cons.injEq, true_and] at h; rw [h]
 | 1 :: s, 1 :: s', k, q, h, h' => by
  simp only [sH] at h h'
  rw [Ah4 h h']
 | 0 :: s, 1 :: s', k, q, h, h' => by
  simp only [sH, Option.some.injEq] at h h'
  obtain ⟨m, t, e, hm⟩ := eO h'
  rw [e] at h; simp only [List.cons.injEq] at h; omega
 | 1 :: s, 0 :: s', k, q, h, h' => by
  simp only [sH, Option.some.injEq] at h h'
  obtain ⟨m, t, e, hm⟩ := eO h
  rw [e] at h'; simp only [List.cons.injEq] at h'; omega
 | [], _, _, _, h, _ => by simp [sH] at h
 | (_ + 2) :: _, _, _, _, h, _ => by simp [sH] at h
 | _, [], _, _, _, h => by simp [sH] at h
 | _, (_ + 2) :: _, _, _, _, h => by simp [sH] at h
def A9T (one : Bool) (dst : Option Nat) (io : Nat → Option (Nat × Key)) (j : Nat) (s : Key) : Option Key :=
 if dst = some j then (if one then some (0 :: s) else sH 0 s) else (io j).bind fun m => (sQ m.2 s).map fun s => (2 * m.1 + 1) :: s
theorem A9Y {one : Bool} {dst : Option Nat} {io : Nat → Option (Nat × Key)} (hio : ∀ j j' m m', io j = some m → io j' = some m' → m.1 = m'.1 → j = j') {j j' : Nat} {s s' q : Key}
  (h : A9T one dst io j s = some q) (h' : A9T one dst io j' s' = some q) : j = j' ∧ s = s' := by
 unfold A9T at h h'
 have even : ∀ {s : Key}, (if one = true then some (0 :: s) else sH 0 s) = some q → ∃ m t, q = 2 * m :: t := fun {s} h => by
  split at h
  ·simp only [Option.some.injEq] at h; exact ⟨0, s, h.symm⟩
  ·obtain ⟨m, t, e, _⟩ := eO h; exact ⟨m, t, e⟩
 have odd : ∀ {j : Nat} {s : Key}, ((io j).bind fun m => (sQ m.2 s).map fun s => (2 * m.1 + 1) :: s) = some q → ∃ m s2, io j = some m ∧ s = m.2 ++ s2 ∧ q = (2 * m.1 + 1) :: s2 := fun {j s} h => by
  obtain ⟨m, h1, h2⟩ := Option.bind_eq_some_iff.1 h
  obtain ⟨s2, h3, h4⟩ := Option.map_eq_some_iff.1 h2
  exact ⟨m, s2, h1, nF.1 h3, h4.symm⟩
 split at h <;> split at h'
 ·rename_i e e'
  rw [e] at e'
  refine ⟨by simpa using e', ?_⟩
  split at h
  ·simp only [Option.some.injEq] at h h'
   rw [if_pos (by assumption)] at h'
   simp only [Option.some.injEq] at h'
   rw [← h'] at h; simpa using h
  ·rw [if_neg (by assumption)] at h'
   exact Ah4 h h'
 ·obtain ⟨m, t, e⟩ := even h
  obtain ⟨i, s2, _, _, e'⟩ := odd h'
  rw [e] at e'; simp only [List.cons.injEq] at e'; omega
 ·obtain ⟨m, t, e⟩ := even h'
  obtain ⟨i, s2, _, _, e'⟩ := odd h
  rw [e] at e'; simp only [List.cons.injEq] at e'; omega
 ·obtain ⟨m, s2, h1, h2, e⟩ := odd h
  obtain ⟨m', s2', h1', h2', e'⟩ := odd h'
  rw [e] at e'
  simp only [List.cons.injEq] at e'
  have hj := hio _ _ _ _ h1 h1' (by omega)
  subst hj
  rw [h1] at h1'
  simp only [Option.some.injEq] at h1'
  subst h1'
  exact ⟨rfl, by rw [h2, h2', e'.2]⟩
def AT2 (N : Nat) (one : Bool) (dst : Option Nat) (io : Nat → Option (Nat × Key)) (β β2 : Key → Option Nat) : Key → Option Nat
 | j :: s => if N ≤ j then none else
  match A9T one dst io j s with
  | some q => β2 q
  | none => if dst = some j then none else match io j with
   | some m => β ((N + m.1) :: s)
   | none => β (j :: s)
 | [] => none
def Was (N : Nat) (io : Nat → Option (Nat × Key)) (j : Nat) (s κ : Key) : Prop := (io j = none ∧ κ = j :: s) ∨ ∃ m, io j = some m ∧ sQ m.2 s = none ∧ κ = (N + m.1) :: s
theorem fL {one : Bool} {dst : Option Nat} {io : Nat → Option (Nat × Key)} {k : Key} {b : Nat} (h : AT2 N one dst io β β2 k = some b) :
  ∃ j s, k = j :: s ∧ j < N ∧ ((∃ q, A9T one dst io j s = some q ∧ β2 q = some b) ∨ ∃ κ, Was N io j s κ ∧ β κ = some b) := by
 cases k with
 | nil => simp [AT2] at h
 | cons j s =>
  simp only [AT2] at h
  split at h
  ·cases h
  ·rename_i hN
   refine ⟨j, s, rfl, by omega, ?_⟩
   split at h
   ·rename_i q hq; exact .inl ⟨q, hq, h⟩
   ·rename_i hq
    split at h
    ·cases h
    ·rename_i hd
     unfold A9T at hq
     rw [if_neg hd] at hq
     split at h
     ·rename_i m hm
      rw [hm] at hq
      simp only [Option.bind_some, Option.map_eq_none_iff] at hq
      exact .inr ⟨_, .inr ⟨m, hm, hq, rfl⟩, h⟩
     ·rename_i hm
      exact .inr ⟨_, .inl ⟨hm, rfl⟩, h⟩
theorem A7m {one : Bool} {dst : Option Nat} {io : Nat → Option (Nat × Key)} {ks : Nat → Key} {lent : List Nat} (hio : ∀ j j' m m', io j = some m → io j' = some m' → m.1 = m'.1 → j = j') (hks : ∀ j m, io j = some m → ks m.1 = m.2)
  (hs : Sane w S β) (h2 : Sane w2 S2 β2) (hst : Step w (At6 S β lent) (AL6 N ks β) w2 S2 β2) {S' : Nat → Prop} (hS' : (S' = S2 ∧ lent = []) ∨ S' = S) :
  Sane w2 S' (AT2 N one dst io β β2) ∧ Step w S β w2 S' (AT2 N one dst io β β2) := by
 have hand : ∀ {k b}, AL6 N ks β k = some b → ∃ i s, β ((N + i) :: (ks i ++ s)) = some b := fun {k b} h => by
  cases k with
  | nil => simp [AL6] at h
  | cons i s => exact ⟨i, s, h⟩
 have apartK : ∀ {j s κ b k}, j < N → Was N io j s κ → β κ = some b → AL6 N ks β k = some b → False := fun {j s κ b k} hj hw hb hk => by
  obtain ⟨i, s', e⟩ := hand hk
  have := hs.inj _ _ _ hb e
  rcases hw with ⟨_, rfl⟩ | ⟨m, hm, hst, rfl⟩
  ·simp only [List.cons.injEq] at this; omega
  ·simp only [List.cons.injEq] at this
   have hi : i = m.1 := by omega
   subst hi
   rw [hks j m hm] at this
   exact fE hst _ this.2
 have far : ∀ {q b j s κ}, β2 q = some b → j < N → Was N io j s κ → β κ = some b → False := fun {q b j s κ} hq hj hw hb => by
  rcases hst.new q b hq with ⟨k', e⟩ | e
  ·exact apartK hj hw hb e
  ·have := hs.live _ _ hb; omega
 refine ⟨⟨fun k k' b hk hk' => ?_, fun k b hk hb => ?_, fun k b hk => ?_, fun b hb => ?_, hs.tabs fun b hb => ⟨hS'.elim (fun h => h.1 ▸ hst.keepS b (.inl hb)) (fun h => h ▸ hb), hst.old b (hs.liveS b hb) (fun k hk => by obtain ⟨i, s', e⟩ := hand hk; exact hs.sep _ _ e hb)⟩⟩, ⟨hst.size, fun b hb hk => ?_, fun k b hk => ?_, fun b hb => ?_, fun b hb => ?_, hst.out⟩⟩
 ·obtain ⟨j, s, rfl, hj, h⟩ := fL hk
  obtain ⟨j', s', rfl, hj', h'⟩ := fL hk'
  rcases h with ⟨q, n1, n2⟩ | ⟨κ, n0, n1⟩ <;> rcases h' with ⟨q', m1, m2⟩ | ⟨κ', m0, m1⟩
  ·have := h2.inj _ _ _ n2 m2
   subst this
   obtain ⟨e1, e2⟩ := A9Y hio n1 m1
   rw [e1, e2]
  ·exact (far n2 hj' m0 m1).elim
  ·exact (far m2 hj n0 n1).elim
  ·have := hs.inj _ _ _ n1 m1
   rcases n0 with ⟨_, rfl⟩ | ⟨m, hm, _, rfl⟩ <;> rcases m0 with ⟨_, rfl⟩ | ⟨m', hm', _, rfl⟩
   ·exact this
   ·simp only [List.cons.injEq] at this; omega
   ·simp only [List.cons.injEq] at this; omega
   ·simp only [List.cons.injEq] at this
    rw [hio _ _ _ _ hm hm' (by omega), this.2]
 ·obtain ⟨j, s, rfl, hj, h⟩ := fL hk
  rcases h with ⟨q, n1, n2⟩ | ⟨κ, n0, n1⟩
  ·rcases hS' with ⟨rfl, _⟩ | rfl
   ·exact h2.sep _ _ n2 hb
   ·exact h2.sep _ _ n2 (hst.keepS b (.inl hb))
  ·rcases hS' with ⟨rfl, hl⟩ | rfl
   ·rcases hst.newS b hb with (h | ⟨r, hr, _⟩) | ⟨k', e⟩ | e
    ·exact hs.sep _ _ n1 h
    ·rw [hl] at hr; cases hr
    ·exact apartK hj n0 n1 e
    ·have := hs.live _ _ n1; omega
   ·exact hs.sep _ _ n1 hb
 ·obtain ⟨j, s, rfl, hj, h⟩ := fL hk
  rcases h with ⟨q, n1, n2⟩ | ⟨κ, n0, n1⟩
  ·exact h2.live _ _ n2
  ·exact Nat.lt_of_lt_of_le (hs.live _ _ n1) hst.size
 ·rcases hS' with ⟨rfl, _⟩ | rfl
  ·exact h2.liveS b hb
  ·exact Nat.lt_of_lt_of_le (hs.liveS b hb) hst.size
 ·exact hst.old b hb fun k hk' => by
   obtain ⟨i, s, e⟩ := hand hk'
   exact hk _ e
 ·obtain ⟨j, s, rfl, hj, h⟩ := fL hk
  rcases h with ⟨q, n1, n2⟩ | ⟨κ, n0, n1⟩
  ·rcases hst.new q b n2 with ⟨k', e⟩ | e
   ·obtain ⟨i, s', e⟩ := hand e
    exact .inl ⟨_, e⟩
   ·exact .inr e
  ·exact .inl ⟨_, n1⟩
 ·rcases hS' with ⟨rfl, _⟩ | rfl
  ·exact hst.keepS b (.inl hb)
  ·exact hb
 ·rcases hS' with ⟨rfl, hl⟩ | rfl
  ·rcases hst.newS b hb with (h | ⟨r, hr, _⟩) | ⟨k', e⟩ | e
   ·exact .inl h
   ·rw [hl] at hr; cases hr
   ·obtain ⟨i, s', e⟩ := hand e
    exact .inr (.inl ⟨_, e⟩)
   ·exact .inr (.inr e)
  ·exact .inl hb
theorem A2R {ks : Nat → Key} {lent : List Nat} (hs : Sane w S β) (hl : ∀ r ∈ lent, r < N) : Sane w (At6 S β lent) (AL6 N ks β) := by
 refine ⟨fun k k' b h h' => ?_, fun k b h hb => ?_, fun k b h => ?_, fun b hb => ?_, hs.tabs fun b hb => ⟨.inl hb, rfl⟩⟩
 ·cases k with
  | nil => simp [AL6] at h
  | cons i s =>
   cases k' with
   | nil => simp [AL6] at h'
   | cons i' s' =>
    have := hs.inj _ _ _ h h'
    simp only [List.cons.injEq] at this ⊢
    have hi : i = i' := by omega
    subst hi
    exact ⟨rfl, List.append_cancel_left this.2⟩
 ·cases k with
  | nil => simp [AL6] at h
  | cons i s =>
   rcases hb with hb | ⟨r, hr, s', hb⟩
   ·exact hs.sep _ _ h hb
   ·have := hs.inj _ _ _ h hb
    simp only [List.cons.injEq] at this
    have := hl r hr; omega
 ·cases k with
  | nil => simp [AL6] at h
  | cons i s => exact hs.live _ _ h
 ·rcases hb with hb | ⟨r, hr, s', hb⟩
  ·exact hs.liveS b hb
  ·exact hs.live _ _ hb
end
end Go.Rf

end
section
namespace Go.Rf
set_option linter.unusedSectionVars false
variable [T : Laid]
section
variable {P : Program} {H : Nat → Option (List Value)} {N : Nat} {g g' G σ : zY} {V V' V0 : Nat → Option Value} {w w' w2 : World} {S S' S2 : Nat → Prop} {β β' β2 : Key → Option Nat} {a : Act} {o : Oper}
variable {E : Env} {gv : zY} {us : List Up}
theorem Ae0 : ∀ {n k : Nat} {t : Ty} {f : Fl} {x : t.D} {cs : List (List Value)}, qZ S β w n k t f x cs → (nU n t cs).length = n
 | 0, _, _, _, _, [], _ => by simp [nU]
 | n + 1, k, .pair a b, f, x, c :: cs, h => by
  simp only [qZ] at h
  simp only [nU, List.length_cons, Ae0 h.2]
 | 0, _, _, _, _, _ :: _, h => by simp [qZ] at h
 | _ + 1, _, .pair _ _, _, _, [], h => by simp [qZ] at h
 | _ + 1, _, .int _, _, _, _, h | _ + 1, _, .bool, _, _, _, h | _ + 1, _, .str, _, _, _, h | _ + 1, _, .fn, _, _, _, h | _ + 1, _, .unit, _, _, _, h
 | _ + 1, _, .sl _, _, _, _, h | _ + 1, _, .ptr _, _, _, _, h | _ + 1, _, .arr _ _, _, _, _, h => by simp [qZ] at h
theorem A3P {vs : List Value} (h : vs.length ≠ 1) : AY5 vs = .tuple vs.toArray := by
 match vs, h with
 | [], _ => rfl
 | [v], h => exact absurd rfl h
 | _ :: _ :: _, _ => rfl
theorem A4m : ∀ {n k : Nat} {t : Ty} {f : Fl} {x : t.D} {cs : List (List Value)} {key : Key}, f.nopin = true → qZ S β2 w n k t f x cs →
  (∀ s b, (sH k s).bind β2 = some b → β' (key ++ s) = some b) →
  zP S β' H w key (AT6 n t) (Af5 n f) (BR4 n t x) cs.flatten ∧ BH2 (AT6 n t) cs.flatten = nU n t cs
 | 0, _, t, _, _, [], _, _, _, _ => by
  simp only [AT6, Af5, BR4, List.flatten_nil]
  exact ⟨yM.2 (by simp [Rd]), by simp [BH2, nU]⟩
 | n + 1, k, .pair a b, f, x, c :: cs, key, hf, h, hb => by
  simp only [qZ] at h
  obtain ⟨h1, h2⟩ := h
  have hl := zS h1
  obtain ⟨q1, q2⟩ := A4m (n := n) (k := k + 1) (key := key ++ [1]) (A9D hf) h2 (fun s b' hs => by
   rw [List.append_assoc]
   exact hb (1 :: s) b' (by simpa [sH] using hs))
  have ht : (c ++ cs.flatten).take a.size = c := by rw [← hl]; simp
  have hd : (c ++ cs.flatten).drop a.size = cs.flatten := by rw [← hl]; simp
  simp only [AT6, Af5, BR4, List.flatten_cons, BH2, nU]
  refine ⟨rF.2 ⟨?_, ?_⟩, ?_⟩
  ·rw [ht]
   refine dA (A3J hf) (zL (fun _ hb => ⟨hb, rfl⟩) (fun s b' hs => ⟨?_, rfl⟩) h1)
   rw [List.append_assoc]
   exact hb (0 :: s) b' (by simpa [sH] using hs)
  ·rw [hd]; exact q1
  ·rw [ht, hd, q2]
 | 0, _, _, _, _, _ :: _, _, _, h, _ => by simp [qZ] at h
 | _ + 1, _, .pair _ _, _, _, [], _, _, h, _ => by simp [qZ] at h
 | _ + 1, _, .int _, _, _, _, _, _, h, _ | _ + 1, _, .bool, _, _, _, _, _, h, _ | _ + 1, _, .str, _, _, _, _, _, h, _ | _ + 1, _, .fn, _, _, _, _, _, h, _ | _ + 1, _, .unit, _, _, _, _, _, h, _
 | _ + 1, _, .sl _, _, _, _, _, _, h, _ | _ + 1, _, .ptr _, _, _, _, _, _, h, _ | _ + 1, _, .arr _ _, _, _, _, _, _, h, _ => by simp [qZ] at h
theorem A8y {ms : List Mode} {t : Ty} {f fo : Fl} {sl : Nat} {pa : List PS} {o : Io} {rs : List Io} {i : Nat} : eH (.io t f fo sl pa :: ms) (o :: rs) i o.r = some (i, xK o.p) := by simp [eH]
theorem bS {x : Nat} {l : List Nat} (h : mJ (x :: l) = true) : x ∉ l ∧ mJ l = true := by
 simp only [mJ, Bool.and_eq_true, Bool.not_eq_true'] at h
 refine ⟨fun hx => ?_, h.2⟩
 have : l.any (Nat.beq x ·) = true := List.any_eq_true.2 ⟨x, hx, by simp⟩
 rw [this] at h; cases h.1
theorem fP {S1 : Nat → Prop} {β1 : Key → Option Nat} (hsame : ∀ b, S1 b → S' b ∧ w2.heap[b]? = w.heap[b]?) : ∀ {ms : List Mode} {rs : List Io} {cs : List (List Value)} {i : Nat} {t : Ty} {x : t.D} {us : List Up} {G : zY},
  Am9 ms rs t x = some us → AI8 S2 β2 w2 ms cs i t x → mE H N S1 β1 w V0 ms cs rs i → mJ (rs.map Io.r) = true → (∀ r ∈ rs.map Io.r, V r = V0 r) →
  (∀ j m, eH ms rs i j = some m → (∀ s b, β2 ((2 * m.1 + 1) :: s) = some b → β' (j :: (m.2 ++ s)) = some b) ∧ ∀ s b, ¬ m.2 <+: s → β1 ((N + m.1) :: s) = some b → β' (j :: s) = some b ∧ w2.heap[b]? = w.heap[b]?) →
  ((∀ b, S2 b → S' b) ∨ gN ms = true) → Rel H N G V w2 S' β' → Rel H N (G.ups us) V w2 S' β'
 | [], [], [], i, t, x, us, G, hb, _, _, _, _, _, _, h => by
  simp only [Am9, Option.some.injEq] at hb; subst hb; exact h
 | .ro _ :: ms, rs, _ :: cs, i, t, x, us, G, hb, hi, hk, hn, hG, hβ, hc, h => by
  simp only [Am9] at hb; simp only [AI8] at hi; simp only [mE] at hk; simp only [eH] at hβ; simp only [gN] at hc
  exact fP hsame hb hi hk hn hG hβ hc h
 | .mv _ _ :: ms, rs, _ :: cs, i, t, x, us, G, hb, hi, hk, hn, hG, hβ, hc, h => by
  simp only [Am9] at hb; simp only [AI8] at hi; simp only [mE] at hk; simp only [eH] at hβ; simp only [gN] at hc
  exact fP hsame hb hi hk hn hG hβ hc h
 | .io tm f fo sl pa :: ms, o :: rs, c :: cs, i, .pair ta tb, x, us, G, hb, hi, hk, hn, hG, hβ, hc, h => by
  simp only [Am9] at hb; simp only [AI8] at hi; simp only [mE] at hk; simp only [gN, Bool.and_eq_true] at hc
  obtain ⟨rfl, hv, hi⟩ := hi
  obtain ⟨⟨hrN, hfo, d0, cr, L, hg, hdt, hgb, hinb, hV0, hold, hw1, hw2, hpins⟩, hk⟩ := hk
  rw [hg] at hb
  simp only at hb
  split at hb
  ·rename_i y hm
   split at hb
   ·obtain ⟨us', hb', rfl⟩ := Option.map_eq_some_iff.1 hb
    simp only [List.map_cons] at hn hG
    obtain ⟨hr, hn⟩ := bS hn
    have hVr := hG o.r (by simp)
    obtain ⟨hβ1, hβ2⟩ := hβ o.r _ A8y
    simp only at hβ1 hβ2
    have hvv : zP S' β' H w2 ([o.r] ++ xK o.p) ta (d0.f.wrap fo) x.1 c := by
     refine lZ hpins (dA (H := noH) hfo ?_)
     have h1 : zP S2 β' noH w2 ([o.r] ++ xK o.p) ta fo x.1 c := zL (fun _ hb => ⟨hb, rfl⟩) (fun s b hb => ⟨by simpa using hβ1 s b (by simpa using hb), rfl⟩) hv
     rcases hc with hc | hc
     ·exact zL (fun b hb => ⟨hc b hb, rfl⟩) (fun s b hb => ⟨hb, rfl⟩) h1
     ·exact oI hc.1 h1
    have hnew : zP S' β' H w2 [o.r] o.e.t y.1 y.2 cr :=
     oW hsame (k := [N + i]) hg hgb hinb (by have := zS hold; simp [zF, this]) hw1 hw2 hm hold hvv (fun s b hs hbb => by
      have := hβ2 s b hs (by simpa using hbb)
      simpa using this)
    have h2 : Rel H N (G.up (.put o.r (.dat ⟨o.e.t, y.2, y.1⟩))) V w2 S' β' :=
     h.put h.sane (fun b hb => ⟨hb, rfl⟩) (fun j s b _ _ hb => ⟨hb, rfl⟩) (fun _ _ => rfl) ⟨cr, hnew, by rw [hVr]; exact hV0⟩
    show Rel H N ((G.up (.put o.r (.dat ⟨o.e.t, y.2, y.1⟩))).ups us') V w2 S' β'
    refine fP hsame (i := i + 1) hb' hi hk hn (fun r' hr' => hG r' (by simp [hr'])) (fun j m hj => ?_) (hc.imp id (·.2)) h2
    have hne : j ≠ o.r := fun e => hr (e ▸ aC hj)
    exact hβ j m (by simp only [eH]; rw [if_neg hne]; exact hj)
   ·cases hb
  ·cases hb
 | [], [], _ :: _, _, _, _, _, _, _, hi, _, _, _, _, _, _ => by simp [AI8] at hi
 | [], _ :: _, _, _, _, _, _, _, hb, _, _, _, _, _, _, _ => by simp [Am9] at hb
 | .ro _ :: _, _, [], _, _, _, _, _, _, hi, _, _, _, _, _, _ => by simp [AI8] at hi
 | .mv _ _ :: _, _, [], _, _, _, _, _, _, hi, _, _, _, _, _, _ => by simp [AI8] at hi
 | .io _ _ _ _ _ :: _, _, [], _, _, _, _, _, _, hi, _, _, _, _, _, _ => by simp [AI8] at hi
 | .io _ _ _ _ _ :: _, [], _ :: _, _, _, _, _, _, _, _, hk, _, _, _, _, _ => by simp [mE] at hk
 | .io _ _ _ _ _ :: _, _ :: _, _ :: _, _, .int _, _, _, _, _, hi, _, _, _, _, _, _ | .io _ _ _ _ _ :: _, _ :: _, _ :: _, _, .bool, _, _, _, _, hi, _, _, _, _, _, _ | .io _ _ _ _ _ :: _, _ :: _, _ :: _, _, .str, _, _, _, _, hi, _, _, _, _, _, _
 | .io _ _ _ _ _ :: _, _ :: _, _ :: _, _, .fn, _, _, _, _, hi, _, _, _, _, _, _ | .io _ _ _ _ _ :: _, _ :: _, _ :: _, _, .unit, _, _, _, _, hi, _, _, _, _, _, _ | .io _ _ _ _ _ :: _, _ :: _, _ :: _, _, .sl _, _, _, _, _, hi, _, _, _, _, _, _
 | .io _ _ _ _ _ :: _, _ :: _, _ :: _, _, .ptr _, _, _, _, _, hi, _, _, _, _, _, _ | .io _ _ _ _ _ :: _, _ :: _, _ :: _, _, .arr _ _, _, _, _, _, hi, _, _, _, _, _, _ => by simp [AI8] at hi
theorem Rel.kills (h : Rel H N g V w S β) : ∀ {os : List Io}, Rel H N (g.ups (kills os)) V w S β := by
 intro os
 induction os generalizing g with
 | nil => exact h
 | cons o os ih => exact ih (h.kill fun _ _ => rfl)
theorem BC8 {os : List Io} (h : ∀ o ∈ os, o.r < N) : ∀ u ∈ kills os, u.slot < N := by
 induction os with
 | nil => simp [Go.Rf.kills]
 | cons o os ih =>
  intro u hu
  simp only [Go.Rf.kills, List.mem_cons] at hu
  rcases hu with rfl | hu
  ·exact h o (by simp)
  ·exact ih (fun o ho => h o (by simp [ho])) u hu
theorem Ap3 : ∀ {os : List Io} {g : zY}, ∀ r ∈ os.map Io.r, ((g.ups (kills os)) r).sv = .dead
 | [], _, r, h => by simp at h
 | o :: os, g, r, h => by
  simp only [Go.Rf.kills, zY.ups]
  by_cases hr : r ∈ os.map Io.r
  ·exact Ap3 r hr
  ·have : r = o.r := by simp only [List.map_cons, List.mem_cons] at h; exact h.resolve_right hr
   subst this
   rw [A2c]
   ·rw [show g.up (.put o.r .dead) o.r = _ from oH (u := .put o.r .dead)]; rfl
   ·intro u hu e
    have key : ∀ {os : List Io}, u ∈ Go.Rf.kills os → u.slot ∈ os.map Io.r := by
     intro os
     induction os with
     | nil => simp [Go.Rf.kills]
     | cons o' os ih =>
      intro hu
      simp only [Go.Rf.kills, List.mem_cons] at hu
      rcases hu with rfl | hu
      ·simp [Up.slot]
      ·simp only [List.map_cons, List.mem_cons]; exact .inr (ih hu)
    exact hr (e ▸ key hu)
theorem mE.lt : ∀ {ms : List Mode} {cs : List (List Value)} {rs : List Io} {k : Nat}, mE H N S β w V0 ms cs rs k → ∀ o ∈ rs, o.r < N
 | [], [], [], _, _ => by simp
 | .ro _ :: ms, _ :: cs, rs, k, h => by simp only [mE] at h; exact mE.lt h
 | .mv _ _ :: ms, _ :: cs, rs, k, h => by simp only [mE] at h; exact mE.lt h
 | .io _ _ _ _ _ :: ms, c :: cs, o :: rs, k, h => by
  simp only [mE] at h
  intro o' ho'
  rcases List.mem_cons.1 ho' with rfl | ho'
  ·exact h.1.lt
  ·exact mE.lt h.2 o' ho'
 | [], [], _ :: _, _, h | [], _ :: _, _, _, h | .ro _ :: _, [], _, _, h | .mv _ _ :: _, [], _, _, h | .io _ _ _ _ _ :: _, [], _, _, h | .io _ _ _ _ _ :: _, _ :: _, [], _, h => by simp [mE] at h
theorem A8H {ρ : Operand → Value} {c : Call} {f : FuncId} (ho : o.op = .call c) (hcal : c.callee = .value (.func f)) (hρ : ρ (.func f) = .func (.func f) #[] #[]) :
  execOp ρ o = callFunc f (c.args.map ρ) := by
 unfold execOp
 simp [ho, resolve, hcal, Deferred.ofValue, invoke, hρ]
theorem A84 {f : FuncId} {args : Array Value} {K : Act → World → Prop} {Q : Exit → Act → World → Prop} (he : execOp a.eval o = callFunc f args)
  (h : AV6 P f args w fun v w' => K (a.put o.dst v) w') : o.wp P a w K Q := by
 unfold Oper.wp
 rw [he]
 rcases h with ⟨fn, h1, h2, h3, h4⟩ | ⟨v, w', h1, h2⟩
 ·have hr : (callFunc f args).run P w = .ok (.enter f args) w := by
   have h2' : fn.name ≠ "runtime.NumGoroutine" := fun e => by rw [e] at h2; simp at h2
   have h3' : fn.body ≠ none := fun e => by rw [e] at h3; simp at h3
   simp only [callFunc, go_sem]
   simp [h1, h2', h3']
  rw [hr, Oper.upon_enter]
  exact h4.mono fun e w' he => by cases e <;> first | exact he | exact he.elim
 ·rw [h1, Oper.upon_value]; exact h2
theorem A2z {n d : Nat} {t : Ty} {f : Fl} {x : t.D} {crs : List (List Value)} {rv : SV} {gg : zY} (hr : A9h n (AT6 n t) (BR4 n t x) (Af5 n f) = some rv) (h : qZ S2 β2 w n 0 t f x crs) (hf : f.nopin = true)
  (hc : (∀ b, S2 b → S' b) ∨ sR (AT6 n t) (Af5 n f) = true) (hβ : ∀ s b, (if Nat.beq n 1 = true then some (0 :: s) else sH 0 s).bind β2 = some b → β' (d :: s) = some b) :
  qE H N gg (upd V d (AY5 (nU n t crs))) w S' β' d rv := by
 have many : n ≠ 1 → rv = .tup ⟨AT6 n t, BR4 n t x, Af5 n f⟩ → qE H N gg (upd V d (AY5 (nU n t crs))) w S' β' d rv := by
  intro hn e
  have hn' : Nat.beq n 1 = false := by
   cases h : Nat.beq n 1 with
   | false => rfl
   | true => exact absurd (Nat.eq_of_beq_eq_true h) hn
  obtain ⟨q1, q2⟩ := A4m (H := H) (key := [d]) hf h (fun s b hs => by simpa using hβ s b (by rw [hn']; exact hs))
  subst e
  refine ⟨crs.flatten, ?_, ?_⟩
  ·rcases hc with hc | hc
   ·exact zL (fun b hb => ⟨hc b hb, rfl⟩) (fun s b hb => ⟨hb, rfl⟩) q1
   ·exact oI hc q1
  ·rw [A3P (by rw [Ae0 h]; exact hn)]
   simp only [upd, if_true, BC5, q2]
 match n, h, hr with
 | 0, h, hr =>
  refine many (by omega) ?_
  simp only [A9h, Option.some.injEq] at hr
  exact hr.symm
 | n + 2, h, hr =>
  refine many (by omega) ?_
  simp only [A9h, Option.some.injEq] at hr
  exact hr.symm
 | 1, h, hr =>
  cases t with
  | pair ta tb =>
   match crs, h with
   | [c], h =>
    simp only [qZ] at h
    have hr : (some (.dat ⟨ta, x.1, (Fl.mkpr f.l .sh).l⟩) : Option SV) = some rv := hr
    rw [Ao8] at hr
    simp only [Option.some.injEq] at hr
    subst hr
    simp only [AT6, Af5, sR, Ao8, Bool.and_true] at hc
    have h1 : zP S2 β' H w [d] ta f.l x.1 c := dA (H := noH) (A3J hf) (zL (fun _ hb => ⟨hb, rfl⟩) (fun s b hb => ⟨by simpa using hβ s b (by simpa using hb), rfl⟩) h.1)
    refine ⟨c, ?_, by simp [upd, nU, AY5]⟩
    rcases hc with hc | hc
    ·exact zL (fun b hb => ⟨hc b hb, rfl⟩) (fun s b hb => ⟨hb, rfl⟩) h1
    ·exact oI hc h1
   | [], h => simp [qZ] at h
   | _ :: _ :: _, h => simp [qZ] at h
  | _ => simp [qZ] at h
theorem Ai7 : ∀ {xs : List Operand} {vs : List Value}, xs.map (evl (qR a) ·) = vs.map some → xs.map a.eval = vs
 | [], [], _ => rfl
 | x :: xs, v :: vs, h => by
  simp only [List.map_cons, List.cons.injEq] at h ⊢
  exact ⟨zJ h.1, Ai7 h.2⟩
 | [], _ :: _, h => by simp at h
 | _ :: _, [], h => by simp at h
theorem AU4 {d : Option Nat} {us : List Up} (r : Nat) (v : SV) : Up.soften d g us (.put r v) = .mod r v ∨ Up.soften d g us (.put r v) = .put r v := by
 by_cases h : (!BT9 d r && A5z g us r) = true
 ·exact .inl (if_pos h)
 ·exact .inr (if_neg h)
theorem Ae1 {d : Option Nat} {us : List Up} {u : Up} : (Up.soften d g us u).slot = u.slot := by
 cases u with
 | put r v => rcases AU4 (d := d) (g := g) (us := us) r v with e | e <;> rw [e] <;> rfl
 | mod r v => rfl
 | pub r v => rfl
theorem BB0 {d : Option Nat} {us : List Up} {u : Up} : (Up.soften d g us u).v = u.v := by
 cases u with
 | put r v => rcases AU4 (d := d) (g := g) (us := us) r v with e | e <;> rw [e] <;> rfl
 | mod r v => rfl
 | pub r v => rfl
theorem A7b {d : Option Nat} {us : List Up} {u : Up} (a : Slot) : ((Up.soften d g us u).on a).c = (u.on a).c ∧ ((Up.soften d g us u).on a).u = (u.on a).u := by
 cases u with
 | put r v => rcases AU4 (d := d) (g := g) (us := us) r v with e | e <;> rw [e] <;> exact ⟨rfl, rfl⟩
 | mod r v => exact ⟨rfl, rfl⟩
 | pub r v => exact ⟨rfl, rfl⟩
theorem Bf0 {u : Up} {a b : Slot} (h1 : a.c = b.c) (h2 : a.u = b.u) : (u.on a).c = (u.on b).c ∧ (u.on a).u = (u.on b).u := by
 cases u <;> simp [Up.on, h1, h2]
structure Alike (a b : Slot) : Prop where
 sv : a.sv = b.sv
 c : a.c = b.c
 u : a.u = b.u
theorem Up.on_sv (u : Up) (a : Slot) : (u.on a).sv = u.v := by cases u <;> rfl
theorem Up.on_c (u : Up) (a : Slot) : a.c ≤ (u.on a).c ∧ a.s ≤ (u.on a).s ∧ a.u ≤ (u.on a).u ∧ ((u.on a).c = a.c → (u.on a).s = a.s) := by
 cases u <;> simp [Up.on]
theorem Af7 (u : Up) (r : Nat) : (g.up u) r = if r = u.slot then u.on (g r) else g r := by
 by_cases h : r = u.slot
 ·rw [if_pos h, h, oH]
 ·rw [if_neg h, rI h]
theorem Ac4 : ∀ (us : List Up) (g : zY) (r : Nat), (g r).c ≤ ((g.ups us) r).c ∧ (g r).s ≤ ((g.ups us) r).s ∧ (((g.ups us) r).c = (g r).c → ((g.ups us) r).s = (g r).s)
 | [], g, r => ⟨Nat.le_refl _, Nat.le_refl _, fun _ => rfl⟩
 | u :: us, g, r => by
  obtain ⟨h1, h2, h3⟩ := Ac4 us (g.up u) r
  have hu := Up.on_c u (g r)
  have e := Af7 (g := g) u r
  show (g r).c ≤ (((g.up u).ups us) r).c ∧ _
  by_cases h : r = u.slot
  ·rw [if_pos h] at e
   rw [e] at h1 h2 h3
   obtain ⟨u1, u2, u3, u4⟩ := hu
   refine ⟨by omega, show (g r).s ≤ (((g.up u).ups us) r).s by omega, fun hc => ?_⟩
   have hc : (((g.up u).ups us) r).c = (g r).c := hc
   have e3 := h3 (by omega)
   have e4 := u4 (by omega)
   show (((g.up u).ups us) r).s = _
   omega
  ·rw [if_neg h] at e
   rw [e] at h1 h2 h3
   exact ⟨h1, h2, h3⟩
theorem Aw6 : ∀ (us : List Up) (g : zY) (r : Nat), us.all (fun u => !u.v.refs) = true → (((g.ups us) r).sv.refs = true → ((g.ups us) r).sv = (g r).sv)
 | [], g, r, _, _ => rfl
 | u :: us, g, r, ha, hr => by
  rw [List.all_cons, Bool.and_eq_true] at ha
  have hr' : (((g.up u).ups us) r).sv.refs = true := hr
  have := Aw6 us (g.up u) r ha.2 hr'
  show (((g.up u).ups us) r).sv = _
  rw [this]
  rw [this, Af7] at hr'
  rw [Af7]
  by_cases h : r = u.slot
  ·rw [if_pos h, Up.on_sv] at hr'
   rw [hr'] at ha
   exact absurd ha.1 (by decide)
  ·rw [if_neg h]
theorem Aj1 {d : Option Nat} {g0 : zY} {us0 : List Up} (r : Nat) : ∀ (us : List Up) (a b : Slot) (g1 g2 : zY), g1 r = a → g2 r = b → Alike a b →
    Alike ((g1.ups (us.map (Up.soften d g0 us0))) r) ((g2.ups us) r) ∧
    (((!BT9 d r && A5z g0 us0 r) = true ∧ ((g1.ups (us.map (Up.soften d g0 us0))) r).s = a.s) ∨
     ((!BT9 d r && A5z g0 us0 r) = false ∧ (a = b → (g1.ups (us.map (Up.soften d g0 us0))) r = (g2.ups us) r)))
  | [], a, b, g1, g2, h1, h2, hab => by
    subst h1 h2
    refine ⟨hab, ?_⟩
    cases hc : (!BT9 d r && A5z g0 us0 r) with
    | true => exact .inl ⟨rfl, rfl⟩
    | false => exact .inr ⟨rfl, fun h => h⟩
  | u :: us, a, b, g1, g2, h1, h2, hab => by
    by_cases hr : r = u.slot
    · have e1 : (g1.up (Up.soften d g0 us0 u)) r = (Up.soften d g0 us0 u).on a := by rw [Af7, Ae1, if_pos hr, h1]
      have e2 : (g2.up u) r = u.on b := by rw [Af7, if_pos hr, h2]
      have hal : Alike ((Up.soften d g0 us0 u).on a) (u.on b) := by
        have k1 := A7b (d := d) (g := g0) (us := us0) (u := u) a
        have k2 := Bf0 (u := u) hab.c hab.u
        exact ⟨by rw [Up.on_sv, Up.on_sv, BB0], k1.1.trans k2.1, k1.2.trans k2.2⟩
      obtain ⟨q1, q2⟩ := Aj1 r us _ _ _ _ e1 e2 hal
      refine ⟨q1, ?_⟩
      rcases q2 with ⟨hc, q2⟩ | ⟨hc, q2⟩
      · refine .inl ⟨hc, ?_⟩
        show ((((g1.up (Up.soften d g0 us0 u)).ups (us.map (Up.soften d g0 us0)))) r).s = _
        rw [q2]
        cases u with
        | put s v =>
          have hs : r = s := hr
          subst hs
          have e : Up.soften d g0 us0 (.put r v) = .mod r v := if_pos hc
          rw [e]; rfl
        | mod s v => simp only [Up.soften, Up.on]
        | pub s v => simp only [Up.soften, Up.on]
      · refine .inr ⟨hc, fun hab => ?_⟩
        subst hab
        refine q2 ?_
        cases u with
        | put s v =>
          have hs : r = s := hr
          subst hs
          have e : Up.soften d g0 us0 (.put r v) = .put r v := if_neg (fun h => absurd (h.symm.trans hc) (by decide))
          rw [e]
        | mod s v => rfl
        | pub s v => rfl
    · have e1 : (g1.up (Up.soften d g0 us0 u)) r = a := by rw [Af7, Ae1, if_neg hr, h1]
      have e2 : (g2.up u) r = b := by rw [Af7, if_neg hr, h2]
      exact Aj1 r us _ _ _ _ e1 e2 hab
theorem A36 {d : Nat} : ∀ (us : List Up) (g : zY), us.any (At9 d) = true → (g d).s < ((g.ups us) d).s
 | [], _, h => by cases h
 | u :: us, g, h => by
  rw [List.any_cons, Bool.or_eq_true] at h
  show _ < (((g.up u).ups us) d).s
  by_cases hu : At9 d u = true
  ·have hm := (Ac4 us (g.up u) d).2.1
   cases u with
   | put r v =>
    have hr : d = r := Nat.eq_of_beq_eq_true hu
    subst hr
    rw [Af7, if_pos (show d = Up.slot (.put d v) from rfl)] at hm
    have : (Up.on (.put d v) (g d)).s = (g d).s + 1 := rfl
    omega
   | mod r v => cases hu
   | pub r v => cases hu
  ·have := A36 us (g.up u) (h.resolve_left hu)
   have h2 : (g d).s ≤ ((g.up u) d).s := (Ac4 [u] g d).2.1
   omega
theorem Ar7 {d : Nat} : ∀ (us : List Up) (g : zY), us.all (fun u => !u.v.refs) = true → us.any (At9 d) = true → ((g.ups us) d).sv.refs = false
 | [], _, _, h => by cases h
 | u :: us, g, h1, h2 => by
  rw [List.all_cons, Bool.and_eq_true] at h1
  by_cases h3 : us.any (At9 d) = true
  ·exact Ar7 us _ h1.2 h3
  ·rw [List.any_cons, Bool.or_eq_true] at h2
   have h4 := h2.resolve_right h3
   cases hq : (((g.up u).ups us) d).sv.refs with
   | false => exact hq
   | true =>
    have h5 := Aw6 us (g.up u) d h1.2 hq
    rw [h5, Af7] at hq
    have h6 : d = u.slot := by
     cases u with
     | put r v => exact Nat.eq_of_beq_eq_true h4
     | mod r v => cases h4
     | pub r v => cases h4
    rw [if_pos h6, Up.on_sv] at hq
    rw [hq] at h1
    exact absurd h1.1 (by decide)
theorem A9d {t : Ty} {x y : t.D} {p : List PS} (h : gK p = true) (hi : inB p t x) : inB p t y := by
 cases p with
 | nil => simp [inB]
 | cons s p =>
  cases s <;> simp only [gK, Bool.false_eq_true, Bool.not_eq_true'] at h
  cases t <;> first | (simp only [inB] at hi ⊢; exact AS0 h hi) | (simp [inB] at hi)
theorem Rel.softs {d : Option Nat} {us : List Up} (hb : Rel H N g V w S β) (hs : Sub gv g) (ha : Rel H N (g.ups us) V' w' S' β') (hV : ∀ r, d ≠ some r → V' r = V r) : Rel H N (g.ups (Go.Rf.softs d gv us)) V' w' S' β' := by
 unfold Go.Rf.softs
 split
 ·rename_i hcond
  rw [Bool.and_eq_true] at hcond
  obtain ⟨hrefs, hput⟩ := hcond
  have key := fun r => Aj1 (d := d) (g0 := gv) (us0 := us) r us (g r) (g r) g g rfl rfl ⟨rfl, rfl, rfl⟩
  have mono := Ac4 us g
  refine ⟨ha.sane, fun j => ?_⟩
  have hold := ha.slots j
  have hbef := hb.slots j
  have hal := (key j).1
  rw [hal.sv]
  have hsv := Aw6 us g j hrefs
  have hjd : ((g.ups us) j).sv.refs = true → d ≠ some j := fun h e => by
   subst e
   rw [Ar7 us g hrefs hput] at h
   cases h
  have hrd : ∀ r s, s ≤ (g r).s → ((g.ups (us.map (Up.soften d gv us))) r).s = s → (g r).s = s ∧ d ≠ some r := fun r s h1 h2 => by
   rcases (key r).2 with ⟨hc, q⟩ | ⟨hc, q⟩
   ·refine ⟨by omega, fun e => ?_⟩
    subst e
    simp [BT9] at hc
   ·have := q rfl
    rw [this] at h2
    have := (mono r).2.1
    refine ⟨by omega, fun e => ?_⟩
    subst e
    have := A36 us g hput
    omega
  generalize hx : ((g.ups us) j).sv = x at hold hsv
  cases x with
  | dead => exact hold
  | nils => exact hold
  | und => exact hold
  | unk => exact hold
  | dat d => exact hold
  | tup d => exact hold
  | adr r p c s =>
   rw [← hsv rfl] at hbef
   obtain ⟨a1, a2, a3, a4⟩ := hold
   obtain ⟨b1, b2, b3, b4⟩ := hbef
   refine ⟨a1, by rw [(key r).1.c]; exact a2, ?_, fun hok => ?_⟩
   ·rcases (key r).2 with ⟨hc, q⟩ | ⟨hc, q⟩
    ·omega
    ·rw [q rfl]; exact a3
   ·obtain ⟨h1, h2⟩ := eE.1 hok
    obtain ⟨h3, hd⟩ := hrd r s b3 h1
    rcases (key r).2 with ⟨hc, q⟩ | ⟨hc, q⟩
    ·rw [(key r).1.c] at h2
     have hbx : gK p = true ∨ (g r).c = c := h2.imp id fun e => by have := (mono r).1; omega
     by_cases hcc : ((g.ups us) r).c = (g r).c
     ·
      have hse := (mono r).2.2 hcc
      have := a4 (eE.2 ⟨by omega, h2⟩)
      intro dr hdr
      rw [(key r).1.sv] at hdr
      exact this dr hdr
     ·have hbx : gK p = true := by
       rcases h2 with h2 | h2
       ·exact h2
       ·have := (mono r).1; omega
      have hA := b4 (eE.2 ⟨h3, .inl hbx⟩)
      intro dr hdr
      rw [(key r).1.sv] at hdr
      rw [Bool.and_eq_true] at hc
      have hst := hc.2
      unfold A5z at hst
      have hgr : ∀ d0, (gv r).sv = .dat d0 → (g r).sv = .dat d0 := fun d0 h => by
       rcases hs r with h' | h'
       ·rw [h'] at h; cases h
       ·rw [h']; exact h
      have hgu : ∀ d0, ((gv.ups us) r).sv = .dat d0 → (gv r).sv ≠ .dead → ((g.ups us) r).sv = .dat d0 := fun d0 h hn => by
       have : ∀ (us : List Up) (g1 g2 : zY), g1 r = g2 r → (g1.ups us) r = (g2.ups us) r := fun us => by
        induction us with
        | nil => exact fun _ _ h => h
        | cons u us ih => exact fun g1 g2 h => ih _ _ (by rw [Af7, Af7, h])
       rcases hs r with h' | h'
       ·exact absurd h' hn
       ·rw [this us g gv h']; exact h
      split at hst
      ·rename_i da db e1 e2
       have ht : da.t = db.t := of_decide_eq_true hst
       have e3 := hgu db e2 (by rw [e1]; simp)
       rw [e3] at hdr
       obtain rfl := SV.dat.inj hdr
       obtain ⟨cr, t, b, o, v1, v2, v3, v4, v5, v6⟩ := hA da (hgr da e1)
       refine ⟨cr, t, b, o, ?_, ?_, ?_, ?_, ?_, fun h => ?_⟩
       ·rw [hV r hd, ← ht]; exact v1
       ·rw [← ht]; exact v2
       ·rw [← ht, AF2 (w' := w) hbx]; exact v3
       ·have hj : d ≠ some j := hjd (by rw [hx]; rfl)
        rw [hV j hj]; exact v4
       ·have hcast : ∀ (t t' : Ty) (h : t = t') (x : t.D) (y : t'.D), inB p t x → inB p t' y := fun t t' h x y hi => by
         subst h; exact A9d hbx hi
        exact hcast _ _ ht _ _ v5
       ·rw [hbx] at h; cases h
      ·cases hst
    ·have e := q rfl
     have := a4 (eE.2 ⟨by rw [← h1, e], by rw [← e]; exact h2⟩)
     intro dr hdr
     rw [(key r).1.sv] at hdr
     exact this dr hdr
  | als r p c s =>
   rw [← hsv rfl] at hbef
   obtain ⟨a1, a2, a3, a4⟩ := hold
   obtain ⟨b1, b2, b3, b4⟩ := hbef
   refine ⟨a1, by rw [(key r).1.c]; exact a2, ?_, fun hok => ?_⟩
   ·rcases (key r).2 with ⟨hc, q⟩ | ⟨hc, q⟩
    ·omega
    ·rw [q rfl]; exact a3
   ·obtain ⟨h2, h1⟩ := aI.1 hok
    obtain ⟨h3, hd⟩ := hrd r s b3 h1
    rw [(key r).1.c] at h2
    have hse := (mono r).2.2 (by have := (mono r).1; omega)
    have := a4 (aI.2 ⟨h2, by omega⟩)
    intro dr hdr
    rw [(key r).1.sv] at hdr
    exact this dr hdr
  | pend r p c s u d' =>
   rw [← hsv rfl] at hbef
   obtain ⟨a1, a2, a3, a5, a4⟩ := hold
   obtain ⟨b1, b2, b3, b5, b4⟩ := hbef
   refine ⟨a1, by rw [(key r).1.c]; exact a2, ?_, by rw [(key r).1.u]; exact a5, fun hok => ?_⟩
   ·rcases (key r).2 with ⟨hc, q⟩ | ⟨hc, q⟩
    ·omega
    ·rw [q rfl]; exact a3
   ·obtain ⟨⟨h2, h1⟩, h6⟩ := AT4.1 hok
    obtain ⟨h3, hd⟩ := hrd r s b3 h1
    rw [(key r).1.c] at h2
    rw [(key r).1.u] at h6
    have hse := (mono r).2.2 (by have := (mono r).1; omega)
    have := a4 (AT4.2 ⟨⟨h2, by omega⟩, h6⟩)
    intro dr hdr
    rw [(key r).1.sv] at hdr
    exact this dr hdr
  | clo h rs =>
   rw [← hsv rfl] at hbef
   obtain ⟨a1, a2⟩ := hold
   obtain ⟨b1, b2⟩ := hbef
   refine ⟨fun x hx => ⟨(a1 x hx).1, ?_⟩, fun hall => ?_⟩
   ·have := (b1 x hx).2
    rcases (key x.1).2 with ⟨hc, q⟩ | ⟨hc, q⟩
    ·omega
    ·rw [q rfl]; exact (a1 x hx).2
   ·have hh := fun x hx => hrd x.1 x.2 (b1 x hx).2 (hall x hx)
    intro vs hvs
    have hm : rs.map (fun x => V' x.1) = rs.map (fun x => V x.1) := List.map_congr_left fun x hx => hV _ (hh x hx).2
    rw [hV j (hjd (by rw [hx]; rfl))]
    exact b2 (fun x hx => (hh x hx).1) vs (by rw [← hm]; exact hvs)
 ·exact ha
theorem A1n {R : Run E} {c : Call} {f : FuncId} (hR : Al0 E R) (hc : Ctx E.P H S β a w o g) (hs : Sub gv g) (hm : o.op = .call c) (hcal : c.callee = .value (.func f))
  (hk : AI6 E R gv o f c.args.toList some = some us) (K : Act → World → Prop) (Q : Exit → Act → World → Prop)
  (hK : ∀ a' w' S' β', a'.tmps.size = a.tmps.size → a'.defers = a.defers → (∀ r, o.dst ≠ some r → qR a' r = qR a r) → Rel H a.tmps.size (g.ups us) (qR a') w' S' β' → Step w S β w' S' β' → K a' w') : o.wp E.P a w K Q := by
 unfold AI6 at hk
 split at hk
 ·rename_i p hp
  split at hk
  ·rename_i ds lent hd
   split at hk
   ·rename_i hcond
    obtain ⟨x, hx, hk⟩ := Option.bind_eq_some_iff.1 hk
    simp only [Bool.and_eq_true, Bool.or_eq_true, Bool.not_eq_true', List.isEmpty_iff] at hcond
    obtain ⟨⟨hsh, hrf⟩, hnd⟩ := hcond
    have hgv : yH a.tmps.size gv := fun i hi => by
     rcases hs i with h | h
     ·exact h
     ·rw [← h]; exact hc.dead i hi
    obtain ⟨G', V', S1, β1, r1, r2, r3, r4, r5, r6, r7, r8, r9⟩ := AO6 (V0 := qR a) (k := 0) hc.rel hs hgv (fun i hi => hc.dead i (by omega)) (fun _ _ => rfl) hp
    have hks : ∀ j, 0 ≤ j → AW7 (E.cfg f).modes p.ios 0 j = AW7 (E.cfg f).modes p.ios 0 j := fun _ _ => rfl
    obtain ⟨cs, q1, q2, q3, q4⟩ := iN (ks := AW7 (E.cfg f).modes p.ios 0) r1 r3 r4 (fun i hi => r6 i (by omega)) r8 hks hd
    have q4 := q4 lent (fun _ h => h)
    split at hk
    ·rename_i rv usb hrv hbk
     have hargs : (zZ ds cs).toArray = c.args.map a.eval := by
      have := Ai7 q1
      apply Array.toList_inj.1
      rw [← this]; simp
     refine A84 (A8H hm hcal rfl) ?_
     rw [← hargs]
     refine (hR f ds x hx w _ _ cs (A2R r1.sane q2) q4).mono fun v w2 ⟨S2, β2, crs, s1, s2, s3, s4, s5⟩ => ?_
     obtain ⟨S'', hS1, hS2⟩ : ∃ S'' : Nat → Prop, ((S'' = S2 ∧ lent = []) ∨ S'' = S1) ∧ ((∀ b, S2 b → S'' b) ∨ (sR (AT6 (E.cfg f).nres (E.cfg f).rt) (Af5 (E.cfg f).nres (E.cfg f).rf) = true ∧ gN (E.cfg f).modes = true)) := by
      rcases hsh with h | h
      ·refine ⟨S1, .inr rfl, .inr ?_⟩
       simpa [A70] using h
      ·exact ⟨S2, .inl ⟨rfl, h⟩, .inl fun _ h => h⟩
     have hio : ∀ j j' m m', eH (E.cfg f).modes p.ios 0 j = some m → eH (E.cfg f).modes p.ios 0 j' = some m' → m.1 = m'.1 → j = j' := fun _ _ _ _ => Ac7
     have hioks : ∀ j m, eH (E.cfg f).modes p.ios 0 j = some m → AW7 (E.cfg f).modes p.ios 0 m.1 = m.2 := fun _ _ => Ax5
     obtain ⟨sane2, step2⟩ := A7m (N := a.tmps.size) (one := Nat.beq (E.cfg f).nres 1) (dst := o.dst) hio hioks r1.sane s1 s2 hS1
     have stepA := r2.trans step2
     have hsame := s2.same (A2R r1.sane q2)
     have hSame : ∀ b, S1 b → S'' b ∧ w2.heap[b]? = w.heap[b]? := fun b hb => ⟨step2.keepS b hb, (hsame b (.inl hb)).2⟩
     have hkl := BC8 (N := a.tmps.size) q3.lt
     have hdead : yH a.tmps.size ((g.ups p.ups).ups (kills p.ios)) := (hc.dead.ups r9).ups hkl
     have rel1 : Rel H a.tmps.size ((g.ups p.ups).ups (kills p.ios)) (qR a) w S1 β1 :=
      (r1.fin (g' := g.ups p.ups) (V' := qR a) (fun i hi => (r5 i hi).symm) (hc.dead.ups r9) (fun i hi => (r6 i (by omega)).symm)).kills
     have hfar : ∀ j s κ b, j < a.tmps.size → Was a.tmps.size (eH (E.cfg f).modes p.ios 0) j s κ → β1 κ = some b → w2.heap[b]? = w.heap[b]? := fun j s κ b hj hw hb => s2.old b (r1.sane.live _ _ hb) fun k hk => by
      cases k with
      | nil => simp [AL6] at hk
      | cons i s' =>
       have := r1.sane.inj _ _ _ hb hk
       rcases hw with ⟨_, rfl⟩ | ⟨m, hm', hst, rfl⟩
       ·simp only [List.cons.injEq] at this; omega
       ·simp only [List.cons.injEq] at this
        have hi : i = m.1 := by omega
        subst hi
        rw [hioks j m hm'] at this
        exact fE hst _ this.2
     have hβ : ∀ j s b, o.dst ≠ some j → (((g.ups p.ups).ups (kills p.ios)) j).sv ≠ .dead → β1 (j :: s) = some b → AT2 a.tmps.size (Nat.beq (E.cfg f).nres 1) o.dst (eH (E.cfg f).modes p.ios 0) β1 β2 (j :: s) = some b ∧ w2.heap[b]? = w.heap[b]? := by
      intro j s b hj ha hb
      have hjN := hdead.lt ha
      have hio0 : eH (E.cfg f).modes p.ios 0 j = none := by
       cases hq : eH (E.cfg f).modes p.ios 0 j with
       | none => rfl
       | some m => exact absurd (Ap3 j (aC hq)) ha
      refine ⟨?_, hfar j s _ b hjN (.inl ⟨hio0, rfl⟩) hb⟩
      simp only [AT2]
      rw [if_neg (by omega)]
      unfold A9T
      rw [if_neg hj, hio0]
      simp only [Option.bind_none]
      rw [if_neg hj]; exact hb
     have hβio : ∀ j m, o.dst ≠ some j → eH (E.cfg f).modes p.ios 0 j = some m → (∀ s b, β2 ((2 * m.1 + 1) :: s) = some b → AT2 a.tmps.size (Nat.beq (E.cfg f).nres 1) o.dst (eH (E.cfg f).modes p.ios 0) β1 β2 (j :: (m.2 ++ s)) = some b) ∧
       ∀ s b, ¬ m.2 <+: s → β1 ((a.tmps.size + m.1) :: s) = some b → AT2 a.tmps.size (Nat.beq (E.cfg f).nres 1) o.dst (eH (E.cfg f).modes p.ios 0) β1 β2 (j :: s) = some b ∧ w2.heap[b]? = w.heap[b]? := by
      intro j m hj hm'
      have hjN : j < a.tmps.size := by
       obtain ⟨o', ho', e⟩ := List.mem_map.1 (aC hm')
       rw [← e]; exact q3.lt o' ho'
      refine ⟨fun s b hb => ?_, fun s b hs hb => ?_⟩
      ·simp only [AT2]
       rw [if_neg (Nat.not_le.2 hjN)]
       unfold A9T
       rw [if_neg hj, hm']
       simp only [Option.bind_some, A1J, Option.map_some]
       exact hb
      ·have hst : sQ m.2 s = none := by
        cases hq : sQ m.2 s with
        | none => rfl
        | some s' => exact absurd ⟨s', (nF.1 hq).symm⟩ hs
       refine ⟨?_, hfar j s _ b hjN (.inr ⟨m, hm', hst, rfl⟩) hb⟩
       simp only [AT2]
       rw [if_neg (Nat.not_le.2 hjN)]
       unfold A9T
       rw [if_neg hj, hm']
       simp only [Option.bind_some, hst, Option.map_none]
       rw [if_neg hj]; exact hb
     have hcl : (∀ b, S2 b → S'' b) ∨ gN (E.cfg f).modes = true := hS2.imp id (·.2)
     split at hk
     ·rename_i d hdst
      split at hk
      ·cases hk
      ·rename_i hany
       simp only [Option.some.injEq] at hk
       subst hk
       have hdN := xO hc.opIn hdst
       have hne : ∀ r ∈ p.ios.map Io.r, r ≠ d := fun r hr e => hany (by
        subst e
        obtain ⟨y, hy, e⟩ := List.mem_map.1 hr
        exact List.any_eq_true.2 ⟨y, hy, by rw [e]; exact Nat.beq_refl r⟩)
       refine hK _ _ _ _ wW yS (fun r hr => by rw [hdst, vS hdN]; rw [hdst] at hr; unfold upd; rw [if_neg (fun e => hr (by rw [e]))]) ?_ stepA
       rw [hdst, vS hdN, yW, yW]
       show Rel H a.tmps.size ((((g.ups p.ups).ups (kills p.ios)).up (.put d rv)).ups usb) _ w2 S'' _
       have hβd : ∀ s b, (if Nat.beq (E.cfg f).nres 1 = true then some (0 :: s) else sH 0 s).bind β2 = some b → AT2 a.tmps.size (Nat.beq (E.cfg f).nres 1) o.dst (eH (E.cfg f).modes p.ios 0) β1 β2 (d :: s) = some b := fun s b hb => by
        simp only [AT2]
        rw [if_neg (by omega)]
        unfold A9T
        rw [if_pos hdst]
        obtain ⟨q, hq, hb⟩ := Option.bind_eq_some_iff.1 hb
        rw [hq]; exact hb
       have rel2 : Rel H a.tmps.size (((g.ups p.ups).ups (kills p.ios)).up (.put d rv)) (upd (qR a) d v) w2 S'' _ :=
        rel1.put sane2 hSame (fun j s b hj => hβ j s b (fun e => hj (by rw [hdst] at e; exact (Option.some.inj e).symm))) (fun j hj => by simp [upd, hj]) (by
         rw [s4]; exact A2z hrv s3 hrf (hS2.imp id (·.1)) hβd)
       rw [hdst] at rel2 hβio
       refine fP (i := 0) (V0 := qR a) hSame hbk s5 q3 hnd (fun r hr => ?_) (fun j m hj => hβio j m (fun e => ?_) hj) hcl rel2
       ·simp [upd, hne r hr]
       ·exact hne j (aC hj) (Option.some.inj e).symm
     ·rename_i hdst
      simp only [Option.some.injEq] at hk
      subst hk
      refine hK _ _ _ _ wW yS (fun r _ => by rw [hdst]; rfl) ?_ stepA
      rw [hdst, yW, yW]
      show Rel H a.tmps.size (((g.ups p.ups).ups (kills p.ios)).ups usb) (qR a) w2 S'' _
      have rel2 : Rel H a.tmps.size (((g.ups p.ups).ups (kills p.ios)).up (.put a.tmps.size .dead)) (qR a) w2 S'' _ :=
       rel1.put sane2 hSame (fun j s b _ => hβ j s b (by rw [hdst]; simp)) (fun _ _ => rfl) trivial
      have rel3 : Rel H a.tmps.size ((g.ups p.ups).ups (kills p.ios)) (qR a) w2 S'' _ := rel2.fin (fun i hi => (rP (by omega)).symm) hdead (fun _ _ => rfl)
      rw [hdst] at rel3 hβio
      exact fP (i := 0) (V0 := qR a) hSame hbk s5 q3 hnd (fun r hr => rfl) (fun j m hj => hβio j m (by simp) hj) hcl rel3
    ·cases hk
   ·cases hk
  ·cases hk
 ·cases hk
theorem A2r {R : Run E} {c : Call} {f : FuncId} (hR : Al0 E R) (hc : Ctx E.P H S β a w o g) (hs : Sub gv g) (hm : o.op = .call c) (hcal : c.callee = .value (.func f))
  (hk : Aa6 E R gv o f c.args.toList some = some us) : yJ E.P H S β a w o (g.ups us) := by
 unfold Aa6 at hk
 rw [eB] at hk
 obtain ⟨us0, h0, h1⟩ := Option.bind_eq_some_iff.1 hk
 obtain rfl := Option.some.inj h1
 intro K Q hK
 exact A1n hR hc hs hm hcal h0 K Q fun a' w' S' β' e1 e2 e3 e4 e5 => hK a' w' S' β' e1 e2 (hc.rel.softs hs e4 e3) e5
end
end Go.Rf

end
section
namespace Go.Rf
set_option linter.unusedSectionVars false
variable [T : Laid]
section
variable {P : Program} {H : Nat → Option (List Value)} {N : Nat} {g g' G σ : zY} {V V' V0 : Nat → Option Value} {w w' w2 : World} {S S' S2 : Nat → Prop} {β β' β2 : Key → Option Nat} {a : Act} {o : Oper}
variable {E : Env} {gv : zY} {us : List Up}
def AA0 (S : Nat → Prop) (w : World) : List Dyn → List (List Value) → Prop
 | [], [] => True
 | d :: ds, c :: cs => Rd S w d.t d.x c ∧ AA0 S w ds cs
 | _, _ => False
theorem A7S : ∀ {ms : List Mode} {ds : List Dyn} {cs : List (List Value)} {i : Nat}, Al3 ms ds = true → AA0 S w ds cs → vV S β w ms ds cs i
 | [], [], [], _, _, _ => by simp [vV]
 | .ro t :: ms, d :: ds, c :: cs, i, h, k => by
  simp only [Al3, Bool.and_eq_true, decide_eq_true_eq] at h
  simp only [AA0] at k
  exact ⟨h.1, k.1, A7S h.2 k.2⟩
 | [], [], _ :: _, _, _, k => by simp [AA0] at k
 | [], _ :: _, _, _, h, _ => by simp [Al3] at h
 | _ :: _, [], _, _, h, _ => by simp [Al3] at h
 | _ :: _, _ :: _, [], _, _, k => by simp [AA0] at k
 | .mv _ _ :: _, _ :: _, _, _, h, _ => by simp [Al3] at h
 | .io _ _ _ _ _ :: _, _ :: _, _, _, h, _ => by simp [Al3] at h
theorem AX8 : ∀ {ds ds' : List Dyn} {cs cs' : List (List Value)}, AA0 S w ds cs → AA0 S w ds' cs' → AA0 S w (ds ++ ds') (cs ++ cs') ∧ zZ (ds ++ ds') (cs ++ cs') = zZ ds cs ++ zZ ds' cs'
 | [], _, [], _, _, h => ⟨h, by simp [zZ]⟩
 | d :: ds, ds', c :: cs, cs', h, h' => by
  simp only [AA0] at h
  obtain ⟨q1, q2⟩ := AX8 h.2 h'
  exact ⟨⟨h.1, q1⟩, by simp only [List.cons_append, zZ, q2]⟩
 | [], _, _ :: _, _, h, _ => by simp [AA0] at h
 | _ :: _, _, [], _, h, _ => by simp [AA0] at h
theorem At7 : ∀ {cs : FCaps} {l : List Value}, oE S w cs l → ∃ c, AA0 S w (eF cs) c ∧ zZ (eF cs) c = l
 | .nil, l, h => by simp only [oE] at h; subst h; exact ⟨[], by simp [eF, AA0], by simp [eF, zZ]⟩
 | .int k n r, l, h => by
  simp only [oE] at h
  obtain ⟨b, l', rfl, h1, h2, h3⟩ := h
  obtain ⟨c, q1, q2⟩ := At7 h3
  refine ⟨[.pointer (some ⟨b, 0, none⟩)] :: c, ⟨?_, q1⟩, by simp only [eF, zZ, q2]; rfl⟩
  simp only [Rd]
  exact ⟨b, _, rfl, h1, h2, rfl, rfl⟩
 | .fn v r, l, h => by
  simp only [oE] at h
  obtain ⟨b, u, l', rfl, h1, h2, h3, h4⟩ := h
  obtain ⟨c, q1, q2⟩ := At7 h4
  refine ⟨[.pointer (some ⟨b, 0, none⟩)] :: c, ⟨?_, q1⟩, by simp only [eF, zZ, q2]; rfl⟩
  simp only [Rd]
  exact ⟨b, _, rfl, h1, h2, rfl, u, rfl, h3⟩
theorem AY1 : ∀ {ts : List (Option Ty)} {xs : List Operand} {ds : List Dyn}, Rel H N g V w S β → eI g ts xs = some ds → ∃ cs, AA0 (A00 S β) w ds cs ∧ xs.map (evl V ·) = (zZ ds cs).map some
 | [], [], ds, _, h => by simp only [eI, Option.some.injEq] at h; subst h; exact ⟨[], by simp [AA0], by simp [zZ]⟩
 | some t :: ts, x :: xs, ds, hr, h => by
  simp only [eI] at h
  split at h
  ·rename_i d hd
   split at h
   ·obtain ⟨ds', h', rfl⟩ := Option.map_eq_some_iff.1 h
    obtain ⟨cs, q1, q2⟩ := AY1 hr h'
    obtain ⟨c, e1, e2⟩ := sB hr hd
    exact ⟨c :: cs, ⟨e2, q1⟩, by simp only [List.map_cons, zZ, q2, e1]⟩
   ·cases h
  ·cases h
 | [], _ :: _, _, _, h => by simp [eI] at h
 | none :: _, _, _, _, h => by simp [eI] at h
 | some _ :: _, [], _, _, h => by simp [eI] at h
theorem Af1 (hs : Sub gv g) : ∀ {ts : List (Option Ty)} {xs : List Operand} {ds : List Dyn}, eI gv ts xs = some ds → eI g ts xs = some ds
 | [], [], ds, h => h
 | some t :: ts, x :: xs, ds, h => by
  simp only [eI] at h ⊢
  split at h
  ·rename_i d hd
   rw [uV hs hd]
   simp only
   split at h
   ·rename_i hc
    rw [if_pos hc]
    obtain ⟨ds', h', rfl⟩ := Option.map_eq_some_iff.1 h
    rw [Af1 hs h']; rfl
   ·cases h
  ·cases h
 | [], _ :: _, _, h => by simp [eI] at h
 | none :: _, _, _, h => by simp [eI] at h
 | some _ :: _, [], _, h => by simp [eI] at h
theorem A5f {ρ : Operand → Value} {c : Call} {s : Nat} {f : FuncId} {l : List Value} (ho : o.op = .call c) (hcal : c.callee = .value (.tmp s)) (hρ : ρ (.tmp s) = .func (.func f) #[] l.toArray) :
  execOp ρ o = callFunc f (c.args.map ρ ++ l.toArray) := by
 unfold execOp
 simp [ho, resolve, hcal, Deferred.ofValue, invoke, hρ]
theorem A5w {τ t : Ty} (h : t = .pair τ .unit) {f : Fl} {x : t.D} {crs : List (List Value)} (hr : qZ S β w 1 0 t f x crs) (hf : f.l.whole = true) (hc : sR τ .sh = true) :
  ∃ c, Rd S' w τ ((cast (congrArg Ty.D h) x : (Ty.pair τ .unit).D)).1 c ∧ AY5 (nU 1 t crs) = zX τ c := by
 subst h
 match crs, hr with
 | [c], hr =>
  simp only [qZ] at hr
  exact ⟨c, bC (fT hc) (vN (S' := fun _ => True) hf (fun _ _ => trivial) (fun _ _ _ => trivial) hr.1), rfl⟩
 | [], hr => simp [qZ] at hr
 | _ :: _ :: _, hr => simp [qZ] at hr
theorem A14 {R : Run E} {c : Call} {s : Nat} {v : FnVal} {ff : Fl} (hR : Al0 E R) (hc : Ctx E.P H S β a w o g) (hs : Sub gv g) (hm : o.op = .call c) (hcal : c.callee = .value (.tmp s))
  (hd : yR gv (gv s).sv = some ⟨.fn, v, ff⟩) (hk : aP E R gv o v c.args.toList c.argTypes.toList some = some us) : yJ E.P H S β a w o (g.ups us) := by
 unfold aP at hk
 split at hk
 ·rename_i ds τ h1 h2
  split at hk
  ·rename_i hcl
   obtain ⟨y, hy, hk⟩ := Option.bind_eq_some_iff.1 hk
   obtain ⟨d, hdst, rfl⟩ := yK hk
   have hdN := xO hc.opIn hdst
   unfold A8t at hy
   split at hy
   ·cases hy
   ·rename_i f caps
    split at hy
    ·rename_i hrt
     split at hy
     ·rename_i hcond
      simp only [Bool.and_eq_true] at hcond
      obtain ⟨⟨hn, hros⟩, hwh⟩ := hcond
      obtain ⟨x, hx, rfl⟩ := Option.map_eq_some_iff.1 hy
      have hn1 : (E.cfg f).nres = 1 := Nat.eq_of_beq_eq_true hn
      obtain ⟨cf, hcf, hrd⟩ := sB (x := .tmp s) hc.rel (uV (x := .tmp s) hs hd)
      simp only [Rd] at hrd
      obtain ⟨u, rfl, hfn⟩ := hrd
      simp only [A1i] at hfn
      obtain ⟨l, rfl, hcaps⟩ := hfn
      obtain ⟨cc, k1, k2⟩ := At7 hcaps
      obtain ⟨cs, q1, q2⟩ := AY1 hc.rel (Af1 hs h1)
      obtain ⟨j1, j2⟩ := AX8 q1 k1
      have he := A5f (o := o) (l := l) hm hcal (zJ hcf)
      intro K Q hK
      refine A84 he ?_
      have hargs : (zZ (ds ++ eF caps) (cs ++ cc)).toArray = c.args.map a.eval ++ l.toArray := by
       apply Array.toList_inj.1
       rw [j2, k2]
       have := Ai7 q2
       simp [← this]
      rw [← hargs]
      have hseen : ∀ b, A00 S β b → b < w.heap.size := fun b hb => by
       rcases hb with hb | ⟨k, hb⟩
       ·exact hc.rel.sane.liveS b hb
       ·exact hc.rel.sane.live k b hb
      refine (hR f _ x hx w (A00 S β) (fun _ => none) _ ⟨fun _ _ _ h => by simp at h, fun _ _ h => by simp at h, fun _ _ h => by simp at h, hseen, hc.rel.sane.tabs fun b hb => ⟨.inl hb, rfl⟩⟩ (A7S hros j1)).mono
       fun v w2 ⟨S2, β2, crs, s1, s2, s3, s4, s5⟩ => ?_
      have heap : ∀ b, b < w.heap.size → w2.heap[b]? = w.heap[b]? := fun b hb => s2.old b hb (fun k => by simp)
      have hsane : Sane w2 S β := ⟨hc.rel.sane.inj, hc.rel.sane.sep, fun k b h => Nat.lt_of_lt_of_le (hc.rel.sane.live k b h) s2.size, fun b h => Nat.lt_of_lt_of_le (hc.rel.sane.liveS b h) s2.size, hc.rel.sane.tabs fun b hb => ⟨hb, heap b (hc.rel.sane.liveS b hb)⟩⟩
      have hstep : Step w S β w2 S β := ⟨s2.size, fun b hb _ => heap b hb, fun k b h => .inl ⟨k, h⟩, fun _ h => h, fun _ h => .inl h, s2.out⟩
      refine hK _ _ _ _ wW yS ?_ hstep
      rw [hdst, vS hdN]
      rw [hn1] at s3 s4
      obtain ⟨c, hrd, hval⟩ := A5w (S' := S) hrt s3 hwh hcl
      exact hc.rel.put hsane (fun b hb => ⟨hb, heap b (hc.rel.sane.liveS b hb)⟩) (fun j s b _ _ hb => ⟨hb, heap b (hc.rel.sane.live _ _ hb)⟩) (fun j hj => by simp [upd, hj])
       (Ab4 hrd (s4.trans hval))
     ·cases hy
    ·cases hy
  ·cases hk
 ·cases hk
theorem A9t {R : Run E} (hR : Al0 E R) : AM9 E R := by
 intro H S β a w o g gv us hc hs
 exact ⟨fun c f hm hcal hk => A2r hR hc hs hm hcal hk, fun c s v f hm hcal hd hk => A14 hR hc hs hm hcal hd hk⟩
end
end Go.Rf

end
section
namespace Go.Rf
set_option linter.unusedSectionVars false
variable [T : Laid]
section
variable {P : Program} {H : Nat → Option (List Value)} {N : Nat} {g g' G σ : zY} {V V' V0 : Nat → Option Value} {w w' w2 : World} {S S' S2 : Nat → Prop} {β β' β2 : Key → Option Nat} {a : Act} {o : Oper}
variable {E : Env} {gv : zY} {us : List Up}
structure Ent where
 m : Nat
 slot : Nat
 path : Key
 t : Ty
 f : Fl
def Ent.key (e : Ent) : Key := e.slot :: e.path
def BL7 (L : List Ent) (β : Key → Option Nat) (k : Key) (b : Nat) : Prop := ∃ e ∈ L, ∃ s, k = e.m :: s ∧ sP e.t e.f s = true ∧ β (e.key ++ s) = some b
open Classical in
noncomputable def A2L (L : List Ent) (β : Key → Option Nat) (k : Key) : Option Nat := if h : ∃ b, BL7 L β k b then some h.choose else none
def BQ5 (L : List Ent) (S : Nat → Prop) (β : Key → Option Nat) : Nat → Prop := fun b => S b ∨ ((∃ k, β k = some b) ∧ ¬ ∃ k, A2L L β k = some b)
structure Apart (L : List Ent) : Prop where
 m : ∀ e ∈ L, ∀ e' ∈ L, e.m = e'.m → e = e'
 slot : ∀ e ∈ L, ∀ e' ∈ L, e.slot = e'.slot → e = e'
theorem gT {L : List Ent} {k : Key} {b : Nat} (h : A2L L β k = some b) : BL7 L β k b := by
 unfold A2L at h
 split at h
 ·rename_i hb
  simp only [Option.some.injEq] at h; rw [← h]; exact hb.choose_spec
 ·cases h
theorem A99 {L : List Ent} (hL : Apart L) {e : Ent} (he : e ∈ L) {s : Key} {b : Nat} (ho : sP e.t e.f s = true) (hb : β (e.key ++ s) = some b) : A2L L β (e.m :: s) = some b := by
 have hx : ∃ b, BL7 L β (e.m :: s) b := ⟨b, e, he, s, rfl, ho, hb⟩
 unfold A2L
 rw [dif_pos hx]
 obtain ⟨e', he', s', h1, h2, h3⟩ := hx.choose_spec
 simp only [List.cons.injEq] at h1
 have := hL.m e he e' he' h1.1
 subst this
 rw [← h1.2, hb] at h3
 exact h3.symm
theorem BM5 {L : List Ent} (hL : Apart L) (hs : Sane w S β) : Sane w (BQ5 L S β) (A2L L β) ∧ Step w S β w (BQ5 L S β) (A2L L β) ∧
  ∀ e ∈ L, ∀ f0 (x : e.t.D) c, zP S β H w e.key e.t f0 x c → Fl.le e.f f0 = true → zP (BQ5 L S β) (A2L L β) H w [e.m] e.t e.f x c := by
 refine ⟨⟨fun k k' b h h' => ?_, fun k b h hb => ?_, fun k b h => ?_, fun b hb => ?_, hs.tabs fun b hb => ⟨.inl hb, rfl⟩⟩, ⟨Nat.le_refl _, fun _ _ _ => rfl, fun k b h => ?_, fun b hb => .inl hb, fun b hb => ?_, .rfl'⟩, fun e he f0 x c hv hle => ?_⟩
 ·obtain ⟨e, he, s, rfl, _, h1⟩ := gT h
  obtain ⟨e', he', s', rfl, _, h1'⟩ := gT h'
  have := hs.inj _ _ _ h1 h1'
  simp only [Ent.key, List.cons_append, List.cons.injEq] at this
  have e2 := hL.slot e he e' he' this.1
  subst e2
  rw [List.append_cancel_left this.2]
 ·obtain ⟨e, he, s, rfl, _, h1⟩ := gT h
  rcases hb with hb | ⟨_, hb⟩
  ·exact hs.sep _ _ h1 hb
  ·exact hb ⟨_, h⟩
 ·obtain ⟨e, he, s, rfl, _, h1⟩ := gT h
  exact hs.live _ _ h1
 ·rcases hb with hb | ⟨⟨k, hb⟩, _⟩
  ·exact hs.liveS b hb
  ·exact hs.live _ _ hb
 ·obtain ⟨e, he, s, rfl, _, h1⟩ := gT h
  exact .inl ⟨_, h1⟩
 ·rcases hb with hb | ⟨hb, _⟩
  ·exact .inl hb
  ·exact .inr (.inl hb)
 ·refine AA5 (fun b hb => ⟨.inl hb, rfl⟩) hle (fun s b hb => ⟨rfl, fun ho => A99 hL he ho hb, fun ho => ?_⟩) hv
  refine .inr ⟨⟨_, hb⟩, fun ⟨k, hk⟩ => ?_⟩
  obtain ⟨e', he', s', rfl, ho', h1⟩ := gT hk
  have := hs.inj _ _ _ hb h1
  simp only [Ent.key, List.cons_append, List.cons.injEq] at this
  have e2 := hL.slot e he e' he' this.1
  subst e2
  rw [List.append_cancel_left this.2, ho'] at ho; cases ho
def A86 : ResultVar → Key
 | .tmp _ => []
 | .cell _ _ => [0]
def sU : List ResultVar → Nat → Ty → Fl → List Ent
 | r :: rs, k, .pair a b, f => ⟨2 * k, AV3 r, A86 r, a, f.l⟩ :: sU rs (k + 1) b f.r
 | _, _, _, _ => []
def rE : List Mode → Nat → List Ent
 | .io t _ fo s p :: ms, i => ⟨2 * i + 1, s, xK p, t, fo⟩ :: rE ms (i + 1)
 | .ro _ :: ms, i => rE ms (i + 1)
 | .mv _ _ :: ms, i => rE ms (i + 1)
 | [], _ => []
theorem AC6 : ∀ {rs : List ResultVar} {k : Nat} {t : Ty} {f : Fl}, ∀ e ∈ sU rs k t f, ∃ j, e.m = 2 * j ∧ k ≤ j
 | r :: rs, k, .pair a b, f, e, he => by
  simp only [sU, List.mem_cons] at he
  rcases he with rfl | he
  ·exact ⟨k, rfl, Nat.le_refl _⟩
  ·obtain ⟨j, h1, h2⟩ := AC6 e he; exact ⟨j, h1, by omega⟩
 | [], _, _, _, _, he => by simp [sU] at he
 | _ :: _, _, .int _, _, _, he | _ :: _, _, .bool, _, _, he | _ :: _, _, .str, _, _, he | _ :: _, _, .fn, _, _, he | _ :: _, _, .unit, _, _, he
 | _ :: _, _, .sl _, _, _, he | _ :: _, _, .ptr _, _, _, he | _ :: _, _, .arr _ _, _, _, he => by simp [sU] at he
theorem Ae6 : ∀ {rs : List ResultVar} {k : Nat} {t : Ty} {f : Fl}, ∀ e ∈ sU rs k t f, ∀ e' ∈ sU rs k t f, e.m = e'.m → e = e'
 | r :: rs, k, .pair a b, f, e, he, e', he', h => by
  simp only [sU, List.mem_cons] at he he'
  rcases he with rfl | he <;> rcases he' with rfl | he'
  ·rfl
  ·obtain ⟨j, h1, h2⟩ := AC6 e' he'; simp only at h; omega
  ·obtain ⟨j, h1, h2⟩ := AC6 e he; simp only at h; omega
  ·exact Ae6 e he e' he' h
 | [], _, _, _, _, he, _, _, _ => by simp [sU] at he
 | _ :: _, _, .int _, _, _, he, _, _, _ | _ :: _, _, .bool, _, _, he, _, _, _ | _ :: _, _, .str, _, _, he, _, _, _ | _ :: _, _, .fn, _, _, he, _, _, _ | _ :: _, _, .unit, _, _, he, _, _, _
 | _ :: _, _, .sl _, _, _, he, _, _, _ | _ :: _, _, .ptr _, _, _, he, _, _, _ | _ :: _, _, .arr _ _, _, _, he, _, _, _ => by simp [sU] at he
theorem aB : ∀ {ms : List Mode} {i : Nat}, ∀ e ∈ rE ms i, ∃ j, e.m = 2 * j + 1 ∧ i ≤ j
 | .io t _ fo s p :: ms, i, e, he => by
  simp only [rE, List.mem_cons] at he
  rcases he with rfl | he
  ·exact ⟨i, rfl, Nat.le_refl _⟩
  ·obtain ⟨j, h1, h2⟩ := aB e he; exact ⟨j, h1, by omega⟩
 | .ro _ :: ms, i, e, he => by simp only [rE] at he; obtain ⟨j, h1, h2⟩ := aB e he; exact ⟨j, h1, by omega⟩
 | .mv _ _ :: ms, i, e, he => by simp only [rE] at he; obtain ⟨j, h1, h2⟩ := aB e he; exact ⟨j, h1, by omega⟩
 | [], _, _, he => by simp [rE] at he
theorem AG7 : ∀ {ms : List Mode} {i : Nat}, ∀ e ∈ rE ms i, ∀ e' ∈ rE ms i, e.m = e'.m → e = e'
 | .io t _ fo s p :: ms, i, e, he, e', he', h => by
  simp only [rE, List.mem_cons] at he he'
  rcases he with rfl | he <;> rcases he' with rfl | he'
  ·rfl
  ·obtain ⟨j, h1, h2⟩ := aB e' he'; simp only at h; omega
  ·obtain ⟨j, h1, h2⟩ := aB e he; simp only at h; omega
  ·exact AG7 e he e' he' h
 | .ro _ :: ms, i, e, he, e', he', h => by simp only [rE] at he he'; exact AG7 e he e' he' h
 | .mv _ _ :: ms, i, e, he, e', he', h => by simp only [rE] at he he'; exact AG7 e he e' he' h
 | [], _, _, he, _, _, _ => by simp [rE] at he
theorem oD : ∀ {ms : List Mode} {i : Nat}, (rE ms i).map Ent.slot = iW ms
 | .io t _ fo s p :: ms, i => by simp only [rE, iW, List.map_cons, oD]
 | .ro _ :: ms, i => by simp only [rE, iW]; exact oD
 | .mv _ _ :: ms, i => by simp only [rE, iW]; exact oD
 | [], _ => rfl
theorem kC : ∀ {rs : List ResultVar} {k : Nat} {t : Ty} {f : Fl}, ∀ s ∈ (sU rs k t f).map Ent.slot, s ∈ rs.map AV3
 | r :: rs, k, .pair a b, f, s, hs => by
  simp only [sU, List.map_cons, List.mem_cons] at hs ⊢
  exact hs.imp id fun h => kC s h
 | [], _, _, _, _, he => by simp [sU] at he
 | _ :: _, _, .int _, _, _, he | _ :: _, _, .bool, _, _, he | _ :: _, _, .str, _, _, he | _ :: _, _, .fn, _, _, he | _ :: _, _, .unit, _, _, he
 | _ :: _, _, .sl _, _, _, he | _ :: _, _, .ptr _, _, _, he | _ :: _, _, .arr _ _, _, _, he => by simp [sU] at he
theorem A5t {l l' : List Nat} (h : mJ (l ++ l') = true) : mJ l = true ∧ mJ l' = true ∧ ∀ x ∈ l, x ∉ l' := by
 induction l with
 | nil => exact ⟨rfl, h, by simp⟩
 | cons x l ih =>
  obtain ⟨h1, h2⟩ := bS (x := x) h
  obtain ⟨q1, q2, q3⟩ := ih h2
  refine ⟨?_, q2, fun y hy => ?_⟩
  ·simp only [mJ, Bool.and_eq_true, Bool.not_eq_true']
   refine ⟨?_, q1⟩
   cases hb : l.any (Nat.beq x ·) with
   | false => rfl
   | true =>
    obtain ⟨y, hy, e⟩ := List.any_eq_true.1 hb
    have := Nat.eq_of_beq_eq_true e
    subst this
    exact absurd (List.mem_append_left _ hy) h1
  ·rcases List.mem_cons.1 hy with rfl | hy
   ·exact fun hy' => h1 (List.mem_append_right _ hy')
   ·exact q3 y hy
theorem aR : ∀ {rs : List ResultVar} {k : Nat} {t : Ty} {f : Fl}, mJ (rs.map AV3) = true → ∀ e ∈ sU rs k t f, ∀ e' ∈ sU rs k t f, e.slot = e'.slot → e = e'
 | r :: rs, k, .pair a b, f, hn, e, he, e', he', h => by
  simp only [List.map_cons] at hn
  obtain ⟨h1, h2⟩ := bS hn
  simp only [sU, List.mem_cons] at he he'
  rcases he with rfl | he <;> rcases he' with rfl | he'
  ·rfl
  ·simp only at h
   exact absurd (kC _ (List.mem_map.2 ⟨e', he', h.symm⟩)) h1
  ·simp only at h
   exact absurd (kC _ (List.mem_map.2 ⟨e, he, h⟩)) h1
  ·exact aR h2 e he e' he' h
 | [], _, _, _, _, _, he, _, _, _ => by simp [sU] at he
 | _ :: _, _, .int _, _, _, _, he, _, _, _ | _ :: _, _, .bool, _, _, _, he, _, _, _ | _ :: _, _, .str, _, _, _, he, _, _, _ | _ :: _, _, .fn, _, _, _, he, _, _, _ | _ :: _, _, .unit, _, _, _, he, _, _, _
 | _ :: _, _, .sl _, _, _, _, he, _, _, _ | _ :: _, _, .ptr _, _, _, _, he, _, _, _ | _ :: _, _, .arr _ _, _, _, _, he, _, _, _ => by simp [sU] at he
theorem lY : ∀ {ms : List Mode} {i : Nat}, mJ (iW ms) = true → ∀ e ∈ rE ms i, ∀ e' ∈ rE ms i, e.slot = e'.slot → e = e'
 | .io t _ fo s p :: ms, i, hn, e, he, e', he', h => by
  simp only [iW] at hn
  obtain ⟨h1, h2⟩ := bS hn
  simp only [rE, List.mem_cons] at he he'
  rcases he with rfl | he <;> rcases he' with rfl | he'
  ·rfl
  ·simp only at h
   exact absurd (by rw [← oD (i := i + 1)]; exact List.mem_map.2 ⟨e', he', h.symm⟩) h1
  ·simp only at h
   exact absurd (by rw [← oD (i := i + 1)]; exact List.mem_map.2 ⟨e, he, h⟩) h1
  ·exact lY h2 e he e' he' h
 | .ro _ :: ms, i, hn, e, he, e', he', h => by simp only [rE] at he he'; exact lY (ms := ms) hn e he e' he' h
 | .mv _ _ :: ms, i, hn, e, he, e', he', h => by simp only [rE] at he he'; exact lY (ms := ms) hn e he e' he' h
 | [], _, _, _, he, _, _, _ => by simp [rE] at he
theorem A6d {rs : List ResultVar} {ms : List Mode} {t : Ty} {f : Fl} (h : mJ (rs.map AV3 ++ iW ms) = true) : Apart (sU rs 0 t f ++ rE ms 0) := by
 obtain ⟨h1, h2, h3⟩ := A5t h
 refine ⟨fun e he e' he' hm => ?_, fun e he e' he' hm => ?_⟩
 ·rcases List.mem_append.1 he with he | he <;> rcases List.mem_append.1 he' with he' | he'
  ·exact Ae6 e he e' he' hm
  ·obtain ⟨j, q, _⟩ := AC6 e he; obtain ⟨j', q', _⟩ := aB e' he'; omega
  ·obtain ⟨j, q, _⟩ := AC6 e' he'; obtain ⟨j', q', _⟩ := aB e he; omega
  ·exact AG7 e he e' he' hm
 ·rcases List.mem_append.1 he with he | he <;> rcases List.mem_append.1 he' with he' | he'
  ·exact aR h1 e he e' he' hm
  ·have q := kC _ (List.mem_map.2 ⟨e, he, rfl⟩)
   have q' : e'.slot ∈ iW ms := by rw [← oD (i := 0)]; exact List.mem_map.2 ⟨e', he', rfl⟩
   rw [← hm] at q'; exact absurd q' (h3 _ q)
  ·have q := kC _ (List.mem_map.2 ⟨e', he', rfl⟩)
   have q' : e.slot ∈ iW ms := by rw [← oD (i := 0)]; exact List.mem_map.2 ⟨e, he, rfl⟩
   rw [hm] at q'; exact absurd q' (h3 _ q)
  ·exact lY h2 e he e' he' hm
end
end Go.Rf

end
section
namespace Go.Rf
set_option linter.unusedSectionVars false
variable [T : Laid]
section
variable {P : Program} {H : Nat → Option (List Value)} {N : Nat} {g g' G : zY} {V V' V0 : Nat → Option Value} {w w' w2 : World} {S S' S2 : Nat → Prop} {β β' β2 : Key → Option Nat} {a : Act} {o : Oper}
variable {E : Env} {gv : zY} {us : List Up} {σ : List SV}
def BK1 (tmps : Array Value) : ResultVar → Sem Value
 | .tmp t => pure (tmps.getD t undef)
 | .cell a t => do loadVar t (← asAddr (tmps.getD a undef))
theorem A30 {fn : Func} {tmps : Array Value} {vs : List Value} (h : (fn.results.toList.mapM (BK1 tmps)).run P w = .ok vs w) : (results fn tmps).run P w = .ok (AY5 vs) w := by
 have e : (fn.results.mapM (BK1 tmps)).run P w = .ok vs.toArray w := by
  rw [Array.mapM_eq_mapM_toList]
  simp [h]
 have e2 : results fn tmps = (do let vs ← fn.results.mapM (BK1 tmps); pure (if h : vs.size = 1 then vs[0] else .tuple vs)) := by
  unfold results
  congr
 rw [e2]
 simp only [Sem.run_bind, e, Result.andThen_ok]
 match vs with
 | [] => rfl
 | [v] => rfl
 | _ :: _ :: _ => rfl
theorem RelS.dat (h : RelS H σ a w S β) {i : Nat} {d : Dat} (hd : σ.getD i .dead = .dat d) : (at? (kZ σ) i).sv = .dat d ∧ ∃ c, zP S β H w [i] d.t d.f d.x c ∧ qR a i = some (zX d.t c) := by
 have hs : (at? (kZ σ) i).sv = .dat d := by
  rw [iI]
  rw [List.getD] at hd
  cases he : σ[i]? with
  | none => rw [he] at hd; cases hd
  | some v => rw [he] at hd; exact hd
 exact ⟨hs, h.rel.dat hs⟩
theorem A1Y {i : Nat} {v : Value} (h : qR a i = some v) : a.tmps.getD i undef = v := by
 simp only [qR] at h
 rw [Array.getD_eq_getD_getElem?, h]; rfl
def Mode.np : Mode → Bool
 | .io _ _ fo _ _ => fo.nopin
 | _ => true
def BI4 : Nat → Fl → Fl
 | 0, f => f
 | n + 1, f => BI4 n f.r
theorem A4U {s t : Ty} {x : s.D} {y : t.D} (h : mB s t x = some y) : ∃ e : s = t, e ▸ x = y := by
 unfold mB at h
 split at h
 ·rename_i e; exact ⟨e, Option.some.inj h⟩
 ·cases h
theorem BK2 {r : ResultVar} {d : Dat} (h : RelS H σ a w S β) (hr : A2K E σ r = some d) :
  ∃ c, zP S β H w (AV3 r :: A86 r) d.t d.f d.x c ∧ (BK1 a.tmps r).run E.P w = .ok (zX d.t c) w := by
 cases r with
 | tmp s =>
  simp only [A2K] at hr
  split at hr
  ·rename_i d' hd
   simp only [Option.some.injEq] at hr; subst hr
   obtain ⟨_, c, hv, hV⟩ := h.dat hd
   exact ⟨c, hv, by simp only [BK1]; rw [A1Y hV]; rfl⟩
  ·cases hr
 | cell s ty =>
  simp only [A2K] at hr
  split at hr
  ·rename_i t x f hd
   split at hr
   ·rename_i hc
    simp only [Option.some.injEq] at hr; subst hr
    simp only [Bool.and_eq_true, decide_eq_true_eq, Bool.not_eq_true'] at hc
    obtain ⟨_, c, hv, hV⟩ := h.dat hd
    have hg := uT hc.2
    have key : ∃ b cs, c = [.pointer (some ⟨b, 0, none⟩)] ∧ Blk w b cs ∧ cs.size = t.size ∧ zP S β H w [s, 0] t f.e x cs.toList := by
     rw [qU]
     simp only [zP] at hv
     have hv := hv.2
     cases hf : f.base with
     | own e =>
      rw [hf] at hv
      obtain ⟨b, cs, q1, q2, q3, q4, q5⟩ := hv
      exact ⟨b, cs, q1, q3.blk, q4, q5⟩
     | gone => exact absurd hf hg
     | sh =>
      rw [hf] at hv; simp only [Rd] at hv
      obtain ⟨b, cs, q1, q2, q3, q4, q5⟩ := hv
      exact ⟨b, cs, q1, q3, q4, yM.2 q5⟩
     | pr e1 e2 =>
      rw [hf] at hv; simp only [Rd] at hv
      obtain ⟨b, cs, q1, q2, q3, q4, q5⟩ := hv
      refine ⟨b, cs, q1, q3, q4, ?_⟩
      have hl := tP q5
      cases t <;> simp only [Fl.e, zP, Fl.base, pX, Fl.pins] <;> exact ⟨by simp, hl⟩
     | ar e1 =>
      rw [hf] at hv; simp only [Rd] at hv
      obtain ⟨b, cs, q1, q2, q3, q4, q5⟩ := hv
      refine ⟨b, cs, q1, q3, q4, ?_⟩
      have hl := tP q5
      cases t <;> simp only [Fl.e, zP, Fl.base, pX, Fl.pins] <;> exact ⟨by simp, hl⟩
     | pin k e => exact absurd hf zR
    obtain ⟨b, cs, rfl, hB, hz, hv'⟩ := key
    refine ⟨cs.toList, hv', ?_⟩
    have hcell : zF w t.size (.mem b 0) = some cs.toList := by
     obtain ⟨e, fz, hb⟩ := hB
     simp only [zF, hb]
     rw [if_pos (by omega)]
     rw [show t.size = cs.toList.length by simp [hz], dI]
    simp only [BK1]
    rw [A1Y hV]
    simp only [Sem.run_bind]
    rw [show (asAddr (zX (.ptr t) [.pointer (some ⟨b, 0, none⟩)])).run E.P w = .ok ⟨b, 0, none⟩ w from rfl]
    simp only [Result.andThen_ok]
    exact AY4 hc.1 hcell
   ·cases hr
  ·cases hr
theorem A1O {α : Type} {o : Option α} {l : List (Option α)} {ds : List α} (h : AA8 (o :: l) = some ds) : ∃ d ds', o = some d ∧ AA8 l = some ds' ∧ ds = d :: ds' := by
 cases o with
 | none => simp [AA8] at h
 | some d =>
  simp only [AA8] at h
  obtain ⟨ds', h1, h2⟩ := Option.map_eq_some_iff.1 h
  exact ⟨d, ds', rfl, h1, h2.symm⟩
theorem AW3 {d : Dat} {ds : List Dat} {t : Ty} {f : Fl} {x : t.D} (h : bL (d :: ds) t f = some x) :
  ∃ (a b : Ty) (e : t = .pair a b) (y : (Ty.pair a b).D), e ▸ x = y ∧ Fl.le f.l d.f = true ∧ mB d.t a d.x = some y.1 ∧ bL ds b f.r = some y.2 := by
 cases t with
 | pair a b =>
  simp only [bL] at h
  split at h
  ·rename_i hle
   obtain ⟨y, h1, h2⟩ := Option.bind_eq_some_iff.1 h
   obtain ⟨z, h3, h4⟩ := Option.map_eq_some_iff.1 h2
   exact ⟨a, b, rfl, x, rfl, hle, by rw [h1, ← h4], by rw [h3, ← h4]⟩
  ·cases h
 | _ => simp [bL] at h
theorem A2G {L : List Ent} (hT : ∀ e ∈ L, ∀ f0 (x : e.t.D) c, zP S β H w e.key e.t f0 x c → Fl.le e.f f0 = true → zP S' β' H w [e.m] e.t e.f x c) (h : RelS H σ a w S β) :
  ∀ {rs : List ResultVar} {ds es : List Dat} {k : Nat} {t : Ty} {f : Fl} {x : t.D}, f.nopin = true → AA8 (rs.map (A2K E σ)) = some ds → bL (ds ++ es) t f = some x → (∀ e ∈ sU rs k t f, e ∈ L) →
  ∃ crs, qZ S' β' w rs.length k t f x crs ∧ (rs.mapM (BK1 a.tmps)).run E.P w = .ok (nU rs.length t crs) w ∧ bL es (A02 rs.length t) (BI4 rs.length f) = some (A9w rs.length t x)
 | [], ds, es, k, t, f, x, hf, h1, h2, hL => by
  simp only [List.map_nil, AA8, Option.some.injEq] at h1
  subst h1
  exact ⟨[], by simp [qZ], by simp [nU], h2⟩
 | r :: rs, ds, es, k, t, f, x, hf, h1, h2, hL => by
  obtain ⟨d, ds', hr, h1', rfl⟩ := A1O h1
  obtain ⟨ta, tb, rfl, y, rfl, hle, hc, hcol⟩ := AW3 (ds := ds' ++ es) h2
  obtain ⟨e, hx⟩ := A4U hc
  obtain ⟨dt, dx, df⟩ := d
  simp only at e hx hle
  subst e
  simp only at hx
  obtain ⟨c, hv, hrun⟩ := BK2 h hr
  simp only [sU, List.mem_cons, forall_eq_or_imp] at hL
  obtain ⟨crs, q1, q2, q3⟩ := A2G hT h (k := k + 1) (A9D hf) h1' hcol hL.2
  have hv' := hT _ hL.1 df dx c hv hle
  refine ⟨c :: crs, ⟨dA (A3J hf) (hx ▸ hv'), q1⟩, ?_, q3⟩
  simp only [List.mapM_cons, Sem.run_bind, hrun, Result.andThen_ok, q2, List.length_cons, nU]
  rfl
theorem Ab3 : ∀ {p : List PS} {t : Ty} {f : Fl} {x : t.D} {d : Dat}, BY8 p = true → yO p t f x = some d → inB p t x
 | [], _, _, _, _, _, _ => by simp [inB]
 | .fst :: p, .pair a b, f, x, d, h, k => by simp only [yO] at k; simp only [inB]; exact Ab3 (p := p) h k
 | .snd :: p, .pair a b, f, x, d, h, k => by simp only [yO] at k; simp only [inB]; exact Ab3 (p := p) h k
 | .der :: p, .ptr t, f, x, d, h, k => by simp only [yO] at k; simp only [inB]; exact Ab3 (p := p) h k
 | .idx _ :: _, _, _, _, _, h, _ => by simp [BY8] at h
 | .elm _ :: _, _, _, _, _, h, _ => by simp [BY8] at h
theorem Ad5 {L : List Ent} {cs0 : List (List Value)} (hT : ∀ e ∈ L, ∀ f0 (x : e.t.D) c, zP S β (fun i => cs0[i]?) w e.key e.t f0 x c → Fl.le e.f f0 = true → zP S' β' (fun i => cs0[i]?) w [e.m] e.t e.f x c) (h : RelS (fun i => cs0[i]?) σ a w S β) :
  ∀ {ms : List Mode} {es : List Dat} {i : Nat} {cs : List (List Value)} {t : Ty} {f : Fl} {x : t.D}, Aj9 σ ms i = some es → bL es t f = some x → (∀ e ∈ rE ms i, e ∈ L) → cs.length = ms.length → (∀ j, cs[j]? = cs0[i + j]?) →
   (∀ m ∈ ms, m.np = true) → AI8 S' β' w ms cs i t x
 | [], es, i, cs, t, f, x, h1, h2, hL, hl, hc, hm => by
  match cs, hl with
  | [], _ => simp [AI8]
 | .ro _ :: ms, es, i, cs, t, f, x, h1, h2, hL, hl, hc, hm => by
  match cs, hl with
  | c :: cs, hl =>
   simp only [Aj9] at h1; simp only [rE] at hL
   simp only [AI8]
   exact Ad5 hT h h1 h2 hL (by simpa using hl) (fun j => by have := hc (j + 1); rw [show i + (j + 1) = i + 1 + j by omega] at this; simpa using this) (fun m hm' => hm m (by simp [hm']))
 | .mv _ _ :: ms, es, i, cs, t, f, x, h1, h2, hL, hl, hc, hm => by
  match cs, hl with
  | c :: cs, hl =>
   simp only [Aj9] at h1; simp only [rE] at hL
   simp only [AI8]
   exact Ad5 hT h h1 h2 hL (by simpa using hl) (fun j => by have := hc (j + 1); rw [show i + (j + 1) = i + 1 + j by omega] at this; simpa using this) (fun m hm' => hm m (by simp [hm']))
 | .io tm fi fo s p :: ms, es, i, cs, t, f, x, h1, h2, hL, hl, hc, hm => by
  match cs, hl with
  | c :: cs, hl =>
   simp only [Aj9] at h1
   split at h1
   ·rename_i d hd
    split at h1
    ·rename_i e hg
     split at h1
     ·rename_i j f' hef
      split at h1
      ·rename_i hcond
       simp only [Bool.and_eq_true, decide_eq_true_eq, Bool.not_eq_true'] at hcond
       obtain ⟨⟨⟨⟨hij, hle⟩, het⟩, hng⟩, hix⟩ := hcond
       have hij := Nat.eq_of_beq_eq_true hij
       subst hij
       obtain ⟨es', h1', rfl⟩ := Option.map_eq_some_iff.1 h1
       obtain ⟨ta, tb, rfl, y, rfl, _, hcast, hcol⟩ := AW3 h2
       obtain ⟨q, hx⟩ := A4U hcast
       obtain ⟨et, ex, ef⟩ := e
       simp only at het hef q hx
       subst q
       subst het
       subst hef
       simp only at hx
       obtain ⟨hsd, _⟩ := h.dat hd
       have hnb : (Fl.pin i f').base ≠ .gone := by
        simp only [Fl.base]; exact uT hng
       obtain ⟨cr, Lc, c2, _, _, _, _, _, hv⟩ := qE.at (h.rel.dat hsd) hg (Ab3 hix hg) hnb
       have hpin := vM hv i (by simp [Fl.pins])
       have hc2 : c2 = c := by
        have e0 := hc 0
        simp only [List.getElem?_cons_zero, Nat.add_zero] at e0
        have hpin : cs0[i]? = some c2 := hpin
        rw [← e0] at hpin
        exact (Option.some.inj hpin).symm
       subst hc2
       simp only [rE, List.mem_cons, forall_eq_or_imp] at hL
       have hv' := hT _ hL.1 _ ex c2 hv hle
       have hfo : fo.nopin = true := hm (.io et fi fo s p) (by simp)
       refine ⟨rfl, dA hfo (hx ▸ hv'), ?_⟩
       exact Ad5 hT h h1' hcol hL.2 (by simpa using hl) (fun j => by have := hc (j + 1); rw [show i + (j + 1) = i + 1 + j by omega] at this; simpa using this) (fun m hm' => hm m (by simp [hm']))
      ·cases h1
     ·cases h1
    ·cases h1
   ·cases h1
end
end Go.Rf

end
section
namespace Go.Rf
set_option linter.unusedSectionVars false
variable [T : Laid]
section
variable {P : Program} {H : Nat → Option (List Value)} {N : Nat} {g g' G : zY} {V V' V0 : Nat → Option Value} {w w' w2 : World} {S S' S2 : Nat → Prop} {β β' β2 : Key → Option Nat} {a : Act} {o : Oper}
variable {E : Env} {gv : zY} {us : List Up} {σ : List SV}
theorem Aq0 {cs0 : List (List Value)} : ∀ {ms : List Mode} {ds : List Dyn} {cs : List (List Value)} {i : Nat} {σ : List SV}, rC ms ds i = some σ → vV S β w ms ds cs i → (∀ j, cs[j]? = cs0[i + j]?) →
  σ.length = ms.length ∧ cs.length = ms.length ∧ (zZ ds cs).length = ms.length ∧ (∀ m ∈ ms, m.np = true) ∧
  ∀ j v, σ[j]? = some v → ∃ (d : Dat) (c : List Value), v = .dat d ∧ (zZ ds cs)[j]? = some (zX d.t c) ∧ zP S β (fun i => cs0[i]?) w [i + j] d.t d.f d.x c
 | [], [], [], i, σ, h, _, _ => by
  simp only [rC, Option.some.injEq] at h
  subst h
  simp [zZ]
 | m :: ms, d :: ds, c :: cs, i, σ, h, ha, hc => by
  have hc' : ∀ j, cs[j]? = cs0[i + 1 + j]? := fun j => by have := hc (j + 1); rw [show i + (j + 1) = i + 1 + j by omega] at this; simpa using this
  have hc0 : cs0[i]? = some c := by have := hc 0; simpa using this.symm
  have next : ∀ {t : Ty} {fl : Fl} {x : t.D} {σ' : List SV}, d.t = t → mB d.t t d.x = some x → rC ms ds (i + 1) = some σ' → σ = .dat ⟨t, x, fl⟩ :: σ' → vV S β w ms ds cs (i + 1) →
    zP S β (fun i => cs0[i]?) w [i] d.t fl d.x c → m.np = true →
    σ.length = (m :: ms).length ∧ (c :: cs).length = (m :: ms).length ∧ (zZ (d :: ds) (c :: cs)).length = (m :: ms).length ∧ (∀ q ∈ m :: ms, q.np = true) ∧
    ∀ j v, σ[j]? = some v → ∃ (d' : Dat) (c' : List Value), v = .dat d' ∧ (zZ (d :: ds) (c :: cs))[j]? = some (zX d'.t c') ∧ zP S β (fun i => cs0[i]?) w [i + j] d'.t d'.f d'.x c' := by
   intro t fl x σ' ht hx hi hσ ha' hv hm
   subst ht
   unfold mB at hx
   rw [dif_pos rfl] at hx
   have hx := Option.some.inj hx
   simp only at hx
   obtain ⟨q1, q2, q3, q4, q5⟩ := Aq0 hi ha' hc'
   subst hσ
   refine ⟨by simp [q1], by simp [q2], by simp [zZ, q3], fun m' hm' => ?_, fun j v hj => ?_⟩
   ·rcases List.mem_cons.1 hm' with rfl | hm'
    ·exact hm
    ·exact q4 m' hm'
   ·cases j with
    | zero =>
     simp only [List.getElem?_cons_zero, Option.some.injEq] at hj
     subst hj
     exact ⟨_, c, rfl, by simp [zZ], hx ▸ hv⟩
    | succ j =>
     obtain ⟨d', c', e1, e2, e3⟩ := q5 j v (by simpa using hj)
     exact ⟨d', c', e1, by simpa [zZ] using e2, by rw [show i + (j + 1) = i + 1 + j by omega]; exact e3⟩
  cases m with
  | ro t =>
   simp only [rC] at h
   obtain ⟨x, hx, h⟩ := Option.bind_eq_some_iff.1 h
   obtain ⟨σ', hi, hσ⟩ := Option.map_eq_some_iff.1 h
   simp only [vV] at ha
   exact next ha.1 hx hi hσ.symm ha.2.2 (yM.2 ha.2.1) rfl
  | mv t f =>
   simp only [rC] at h
   obtain ⟨x, hx, h⟩ := Option.bind_eq_some_iff.1 h
   obtain ⟨σ', hi, hσ⟩ := Option.map_eq_some_iff.1 h
   simp only [vV] at ha
   exact next ha.1 hx hi hσ.symm ha.2.2.2 (dA ha.2.1 ha.2.2.1) rfl
  | io t f fo s p =>
   simp only [rC] at h
   obtain ⟨x, hx, h⟩ := Option.bind_eq_some_iff.1 h
   obtain ⟨σ', hi, hσ⟩ := Option.map_eq_some_iff.1 h
   simp only [vV] at ha
   refine next ha.1 hx hi hσ.symm ha.2.2.2 ?_ ha.2.1.2
   have hv : zP S β (fun i => cs0[i]?) w [i] d.t f d.x c := dA ha.2.1.1 ha.2.2.1
   have hp : pX (fun i => cs0[i]?) (.pin i f) c := fun k hk => by
    simp only [Fl.pins, Aq9 ha.2.1.1, List.mem_singleton] at hk
    subst hk; exact hc0
   exact lZ (f := .pin i f) hp hv
 | [], [], _ :: _, _, _, _, ha, _ => by simp [vV] at ha
 | [], _ :: _, _, _, _, h, _, _ => by simp [rC] at h
 | .ro _ :: _, [], _, _, _, h, _, _ => by simp [rC] at h
 | .mv _ _ :: _, [], _, _, _, h, _, _ => by simp [rC] at h
 | .io _ _ _ _ _ :: _, [], _, _, _, h, _, _ => by simp [rC] at h
 | .ro _ :: _, _ :: _, [], _, _, _, ha, _ => by simp [vV] at ha
 | .mv _ _ :: _, _ :: _, [], _, _, _, ha, _ => by simp [vV] at ha
 | .io _ _ _ _ _ :: _, _ :: _, [], _, _, _, ha, _ => by simp [vV] at ha
theorem A0w {f : FuncId} {fn : Func} {x : (E.cfg f).rt.D} {cs : List (List Value)} (h : RelS (fun i => cs[i]?) σ a w S β) (hx : finish E f fn σ = some x) (hl : cs.length = (E.cfg f).modes.length)
  (hm : ∀ m ∈ (E.cfg f).modes, m.np = true) : ∃ v, (results fn a.tmps).run E.P w = .ok v w ∧ Ret (E.cfg f) x cs w S β v w := by
 unfold finish at hx
 split at hx
 ·rename_i hc
  simp only [Bool.and_eq_true] at hc
  obtain ⟨⟨h1, h2⟩, h3⟩ := hc
  have h2 := Nat.eq_of_beq_eq_true h2
  split at hx
  ·rename_i ds es hds hes
   obtain ⟨sane, step, tr⟩ := BM5 (H := fun i => cs[i]?) (A6d (t := (E.cfg f).rt) (f := (E.cfg f).rf) h1) h.rel.sane
   obtain ⟨crs, q1, q2, q3⟩ := A2G (es := es) (k := 0) tr h h3 hds hx (fun e he => List.mem_append_left _ he)
   rw [show fn.results.toList.length = (E.cfg f).nres by simpa using h2] at q1 q2 q3
   refine ⟨_, A30 q2, _, _, crs, sane, step, q1, rfl, ?_⟩
   exact Ad5 tr h hes q3 (fun e he => List.mem_append_right _ he) hl (fun j => by simp) hm
  ·cases hx
 ·cases hx
def AT9 (P : Program) : Prop := ∀ (f : FuncId) (fn : Func), P.funcs[f]? = some fn → (fn.name == "runtime.NumGoroutine") = false
theorem BM7 {R : Run E} {L : lT} (hR : AM9 E R) (hD : A15 E R) (hL : A2f E L) (hN : AT9 E.P) {f : FuncId} {ds : List Dyn} {x : (E.cfg f).rt.D} (h : zE E R L f ds = some x) : BE7 E f ds x := by
 unfold zE at h
 split at h
 ·rename_i fn hfn
  split at h
  ·rename_i c σ hb hi
   split at h
   ·rename_i hcond
    simp only [Bool.and_eq_true] at hcond
    have hlen := Nat.le_of_ble_eq_true hcond.1
    intro w S β cs hs ha
    obtain ⟨q1, q2, q3, q4, q5⟩ := Aq0 (cs0 := cs) hi ha (fun j => by simp)
    refine .inl ⟨fn, hfn, hN f fn hfn, by rw [hb]; rfl, calls_of_wp hfn hb ?_⟩
    have hsz : ((zZ ds cs).toArray ++ Array.replicate (fn.ntmps - (zZ ds cs).toArray.size) undef).size = fn.ntmps := by
     simp only [Array.size_append, List.size_toArray, Array.size_replicate]; omega
    have hrel : RelS (fun i => cs[i]?) (pad fn.ntmps σ) { tmps := (zZ ds cs).toArray ++ Array.replicate (fn.ntmps - (zZ ds cs).toArray.size) undef, defers := [] } w S β := by
     refine ⟨by rw [hsz]; simp [pad]; omega, hs, fun i => ?_⟩
     rw [iI]
     by_cases hi : i < σ.length
     ·have hg : (pad fn.ntmps σ)[i]? = some σ[i] := by
       unfold pad
       rw [List.getElem?_append_left hi, List.getElem?_eq_getElem hi]
      rw [hg]
      obtain ⟨d, cc, e1, e2, e3⟩ := q5 i σ[i] (List.getElem?_eq_getElem hi)
      simp only [e1]
      refine ⟨cc, by simpa using e3, ?_⟩
      have hi' : i < (zZ ds cs).length := by omega
      simp only [qR]
      rw [Array.getElem?_append_left (by simpa using hi')]
      simpa using e2
     ·have hg : ∀ v, (pad fn.ntmps σ)[i]? = some v → v = .dead := fun v hv => by
       unfold pad at hv
       rw [List.getElem?_append_right (by omega), List.getElem?_replicate] at hv
       split at hv
       ·exact (Option.some.inj hv).symm
       ·cases hv
      cases hv : (pad fn.ntmps σ)[i]? with
      | none => trivial
      | some v => rw [hg v hv]; trivial
    refine oR hR hD hL (by rw [show ({ tmps := (zZ ds cs).toArray ++ Array.replicate (fn.ntmps - (zZ ds cs).toArray.size) undef, defers := [] } : Act).tmps.size = fn.ntmps from hsz]; exact hcond.2) hrel h ?_
    intro o a' w' S' β' ho e1 e2 h' hst
    have fin : finish E f fn o.σ = some x → bodyPost E.P fn (fun e w' => match e, w' with | .returned v, w' => Ret (E.cfg f) x cs w S β v w' | _, _ => False) .normal a' w' := fun hx => by
     obtain ⟨v, r1, S2, β2, crs, r2, r3, r4, r5, r6⟩ := A0w h' hx q2 q4
     exact ⟨e2, v, r1, S2, β2, crs, r2, hst.trans r3, r4, r5, r6⟩
    obtain ⟨e, σ'⟩ := o
    cases e with
    | nm => exact fin ho
    | ret => exact fin ho
    | ex id => simp [Be2] at ho
   ·cases h
  ·cases h
 ·cases h
theorem A9a {R : Run E} {L : lT} (hR : AM9 E R) (hD : A15 E R) (ih : Ae3 E L) : Ae3 E (Al9 E R L) := by
 intro H f b σ o a w S β Q hd h hrel hQ
 simp only [Al9] at h
 refine AZ4.round (oR hR hD ih.ok hd hrel h fun o' a' w' S' β' ho e1 e2 h' hst => ?_)
 obtain ⟨e, σ'⟩ := o'
 cases e with
 | nm =>
  simp only at ho
  exact ih H f b _ o a' w' S' β' Q (by rw [e1]; exact hd) ho h'.killS fun a'' w'' S'' β'' f1 f2 h'' hst' => hQ a'' w'' S'' β'' (f1.trans e1) (f2.trans e2) h'' (hst.trans hst')
 | ex id =>
  simp only [Option.some.injEq] at ho; subst ho
  exact hQ a' w' S' β' e1 e2 h' hst
 | ret =>
  simp only [Option.some.injEq] at ho; subst ho
  exact hQ a' w' S' β' e1 e2 h' hst
theorem A1w {X : (f : FuncId) → Option (List Dyn → Option (E.cfg f).rt.D)} (hX : ∀ f h, X f = some h → ∀ ds x, h ds = some x → BE7 E f ds x) (hm : E.P.follows .mixedOrders = true) (hN : AT9 E.P) :
  ∀ k, Al0 E (vX E X k).1 ∧ Ae3 E (vX E X k).2
 | 0 => ⟨fun f ds x h => by simp [vX] at h, fun H f b σ o a w S β Q _ h _ _ => by simp [vX] at h⟩
 | k + 1 => by
  obtain ⟨h1, h2⟩ := A1w hX hm hN k
  have hR := A9t h1
  have hD : A15 E (vX E X k).1 := BR0 hR hm
  refine ⟨fun f ds x h => ?_, A9a hR hD h2⟩
  simp only [vX, AL5] at h
  split at h
  ·rename_i h' hx; exact hX f h' hx ds x h
  ·exact BM7 hR hD h2.ok hN h
end
end Go.Rf

end
section
namespace Go.Rf
set_option linter.unusedSectionVars false
variable [T : Laid]
section
variable {E : Env} {ρ : Type}
def RLe (R R' : Run E) : Prop := ∀ f ds x, R f ds = some x → R' f ds = some x
def LLe (L L' : lT) : Prop := ∀ f b σ o, L f b σ = some o → L' f b σ = some o
theorem A5i {R : Run E} {g : zY} {o : Oper} {f : FuncId} {xs : List Operand} {us : List Up} (h : AI6 E R g o f xs some = some us) :
  ∃ ds x, R f ds = some x ∧ ∀ R' : Run E, R' f ds = some x → AI6 E R' g o f xs some = some us := by
 unfold AI6 at h
 split at h
 ·rename_i p hp
  split at h
  ·rename_i ds lent hd
   split at h
   ·rename_i hc
    obtain ⟨x, hx, hk⟩ := Option.bind_eq_some_iff.1 h
    refine ⟨ds, x, hx, fun R' h' => ?_⟩
    unfold AI6
    rw [hp]; simp only [hd]
    rw [if_pos hc, h']
    exact hk
   ·cases h
  ·cases h
 ·cases h
theorem A7Y {R : Run E} {g : zY} {o : Oper} {f : FuncId} {xs : List Operand} {us : List Up} (h : Aa6 E R g o f xs some = some us) :
  ∃ ds x, R f ds = some x ∧ ∀ R' : Run E, R' f ds = some x → Aa6 E R' g o f xs some = some us := by
 unfold Aa6 at h
 rw [eB] at h
 obtain ⟨us0, h0, h1⟩ := Option.bind_eq_some_iff.1 h
 obtain ⟨ds, x, hx, hR⟩ := A5i h0
 refine ⟨ds, x, hx, fun R' h' => ?_⟩
 unfold Aa6
 rw [eB, hR R' h']
 exact h1
theorem A6H {R : Run E} {g : zY} {o : Oper} {v : FnVal} {xs : List Operand} {ts : List TypeId} {us : List Up} (h : aP E R g o v xs ts some = some us) :
  ∃ f ds x, R f ds = some x ∧ ∀ R' : Run E, R' f ds = some x → aP E R' g o v xs ts some = some us := by
 unfold aP at h
 split at h
 ·rename_i ds τ h1 h2
  split at h
  ·rename_i hc
   obtain ⟨y, hy, hk⟩ := Option.bind_eq_some_iff.1 h
   unfold A8t at hy
   split at hy
   ·cases hy
   ·rename_i f cs
    split at hy
    ·rename_i hrt
     split at hy
     ·rename_i hcond
      obtain ⟨x, hx, e⟩ := Option.map_eq_some_iff.1 hy
      refine ⟨f, _, x, hx, fun R' h' => ?_⟩
      unfold aP
      rw [h1, h2]; simp only
      rw [if_pos hc]
      unfold A8t
      simp only
      rw [dif_pos hrt, if_pos hcond, h']
      simp only [Option.map_some, e]
      exact hk
     ·cases hy
    ·cases hy
  ·cases h
 ·cases h
theorem A7l {R : Run E} {mv : Bool} {g : zY} {o : Oper} {us : List Up} (h : opK E R mv g o some = some us) :
  (∀ R' : Run E, opK E R' mv g o some = some us) ∨ ∃ f ds x, R f ds = some x ∧ ∀ R' : Run E, R' f ds = some x → opK E R' mv g o some = some us := by
 unfold opK at h
 split at h
 case h_22 =>
  rename_i c hop
  split at h
  ·rename_i b hcal
   left; intro R'; unfold opK; rw [hop]; simp only; rw [hcal]; exact h
  ·rename_i f hcal
   obtain ⟨ds, x, h1, h2⟩ := A7Y h
   right
   refine ⟨f, ds, x, h1, fun R' h' => ?_⟩
   unfold opK; rw [hop]; simp only; rw [hcal]; exact h2 R' h'
  ·rename_i s hcal
   split at h
   ·rename_i v f hd
    obtain ⟨f', ds, x, h1, h2⟩ := A6H h
    right
    refine ⟨f', ds, x, h1, fun R' h' => ?_⟩
    unfold opK; rw [hop]; simp only; rw [hcal]; simp only; rw [hd]; exact h2 R' h'
   ·cases h
  ·cases h
 all_goals first
  | (left; intro R'; rename_i hop; unfold opK; rw [hop]; exact h)
  | cases h
structure Tower (E : Env) where
 R : Nat → Run E
 L : Nat → lT
 Rw : Run E
 Lw : lT
 upR : ∀ k, RLe (R k) (R (k + 1))
 upL : ∀ k, LLe (L k) (L (k + 1))
 limR : ∀ f ds x, Rw f ds = some x ↔ ∃ k, R k f ds = some x
 limL : ∀ f b σ o, Lw f b σ = some o ↔ ∃ k, L k f b σ = some o
theorem RLe.trans' {R R' R'' : Run E} (h : RLe R R') (h' : RLe R' R'') : RLe R R'' := fun f ds x k => h' f ds x (h f ds x k)
theorem Tower.leR (T : Tower E) {j k : Nat} (h : j ≤ k) : RLe (T.R j) (T.R k) := by
 induction k with
 | zero =>
  have : j = 0 := by omega
  subst this; exact fun _ _ _ h => h
 | succ k ih =>
  rcases Nat.lt_or_ge k j with h' | h'
  ·have : j = k + 1 := by omega
   subst this; exact fun _ _ _ h => h
  ·exact (ih h').trans' (T.upR k)
theorem Tower.leL (T : Tower E) {j k : Nat} (h : j ≤ k) : LLe (T.L j) (T.L k) := by
 induction k with
 | zero =>
  have : j = 0 := by omega
  subst this; exact fun _ _ _ _ h => h
 | succ k ih =>
  rcases Nat.lt_or_ge k j with h' | h'
  ·have : j = k + 1 := by omega
   subst this; exact fun _ _ _ _ h => h
  ·exact fun f b σ o q => T.upL k f b σ o (ih h' f b σ o q)
theorem A4a {R R' : Run E} (hle : RLe R R') {mv : Bool} {g : zY} {o : Oper} {us : List Up} (h : opK E R mv g o some = some us) : opK E R' mv g o some = some us := by
 rcases A7l h with h' | ⟨f, ds, x, h1, h2⟩
 ·exact h' R'
 ·exact h2 R' (hle f ds x h1)
theorem AB6 {R R' : Run E} (hle : RLe R R') {mv : List Nat} {all : List Oper} {draw : Bool} {κ κ' : List Slot → Option ρ} (hκ : ∀ l r, κ l = some r → κ' l = some r) : ∀ {os : List Oper} {i : Nat} {l : List Slot} {acc : List Rec} {r : ρ},
  gQ E R mv all draw os i l acc κ = some r → gQ E R' mv all draw os i l acc κ' = some r
 | [], i, l, acc, r, h => by
  unfold gQ at h ⊢
  split at h
  ·rename_i hd
   rw [if_pos hd]
   split at h
   ·rename_i hc; rw [if_pos hc]; exact hκ _ _ h
   ·cases h
  ·rename_i hd; rw [if_neg hd]; exact hκ _ _ h
 | o :: os, i, l, acc, r, h => by
  have hgo : ∀ {gs : List Nat} {l : List Slot}, opK E R (mv.any (Nat.beq i ·)) (sG l (Ak0 o l)) o (fun us => gQ E R mv all draw os (i + 1) (mL l us) (acc ++ [AR9 (mv.any (Nat.beq i ·)) gs l o us]) κ) = some r →
    opK E R' (mv.any (Nat.beq i ·)) (sG l (Ak0 o l)) o (fun us => gQ E R' mv all draw os (i + 1) (mL l us) (acc ++ [AR9 (mv.any (Nat.beq i ·)) gs l o us]) κ') = some r := fun {gs l} h => by
   rw [aA] at h ⊢
   obtain ⟨us, h1, h2⟩ := Option.bind_eq_some_iff.1 h
   rw [A4a hle h1]
   exact AB6 hle hκ h2
  have hskip : ∀ {gs : List Nat} {l : List Slot}, (match o.dst with
    | some d => gQ E R mv all draw os (i + 1) (upL l (.put d .und)) (acc ++ [⟨gs, [d], [], [d], [], [d]⟩]) κ
    | none => gQ E R mv all draw os (i + 1) l (acc ++ [⟨gs, [], [], [], [], []⟩]) κ) = some r →
    (match o.dst with
    | some d => gQ E R' mv all draw os (i + 1) (upL l (.put d .und)) (acc ++ [⟨gs, [d], [], [d], [], [d]⟩]) κ'
    | none => gQ E R' mv all draw os (i + 1) l (acc ++ [⟨gs, [], [], [], [], []⟩]) κ') = some r := fun {gs l} h => by
   cases hd : o.dst with
   | some d => rw [hd] at h; exact AB6 hle hκ h
   | none => rw [hd] at h; exact AB6 hle hκ h
  unfold gQ at h ⊢
  simp only at h ⊢
  split at h
  ·exact hgo h
  ·rename_i j want hg
   split at h
   ·cases h
   ·rename_i g hgd
    split at h
    ·rename_i t hv
     cases t with
     | true =>
      simp only [cond_true] at h ⊢
      split at h
      ·rename_i hw; rw [if_pos hw]; exact hgo h
      ·rename_i hw; rw [if_neg hw]; exact hskip h
     | false =>
      simp only [cond_false] at h ⊢
      split at h
      ·rename_i hw; rw [if_pos hw]; exact hskip h
      ·rename_i hw; rw [if_neg hw]; exact hgo h
    ·exact hskip h
    ·cases h
theorem Ab5 (T : Tower E) {mv : List Nat} {all : List Oper} {draw : Bool} {κ : Nat → List Slot → Option ρ} {κw : List Slot → Option ρ} (hup : ∀ j k, j ≤ k → ∀ l r, κ j l = some r → κ k l = some r) (hκ : ∀ l r, κw l = some r → ∃ k, κ k l = some r) :
  ∀ {os : List Oper} {i : Nat} {l : List Slot} {acc : List Rec} {r : ρ}, gQ E T.Rw mv all draw os i l acc κw = some r → ∃ k, gQ E (T.R k) mv all draw os i l acc (κ k) = some r
 | [], i, l, acc, r, h => by
  unfold gQ at h ⊢
  split at h
  ·rename_i hd
   simp only [hd, if_true]
   split at h
   ·rename_i hc; simp only [hc, if_true]; exact hκ _ _ h
   ·cases h
  ·rename_i hd
   simp only [hd]; exact hκ _ _ h
 | o :: os, i, l, acc, r, h => by
  have hgo : ∀ {gs : List Nat} {l : List Slot}, opK E T.Rw (mv.any (Nat.beq i ·)) (sG l (Ak0 o l)) o (fun us => gQ E T.Rw mv all draw os (i + 1) (mL l us) (acc ++ [AR9 (mv.any (Nat.beq i ·)) gs l o us]) κw) = some r →
    ∃ k, opK E (T.R k) (mv.any (Nat.beq i ·)) (sG l (Ak0 o l)) o (fun us => gQ E (T.R k) mv all draw os (i + 1) (mL l us) (acc ++ [AR9 (mv.any (Nat.beq i ·)) gs l o us]) (κ k)) = some r := fun {gs l} h => by
   rw [aA] at h
   obtain ⟨us, h1, h2⟩ := Option.bind_eq_some_iff.1 h
   obtain ⟨k2, h2⟩ := Ab5 T hup hκ h2
   have h1' : ∃ k1, opK E (T.R k1) (mv.any (Nat.beq i ·)) (sG l (Ak0 o l)) o some = some us := by
    rcases A7l h1 with h' | ⟨f, ds, x, q1, q2⟩
    ·exact ⟨0, h' _⟩
    ·obtain ⟨k1, q1⟩ := (T.limR f ds x).1 q1
     exact ⟨k1, q2 _ q1⟩
   obtain ⟨k1, h1'⟩ := h1'
   refine ⟨max k1 k2, ?_⟩
   rw [aA, A4a (T.leR (Nat.le_max_left k1 k2)) h1']
   exact AB6 (T.leR (Nat.le_max_right k1 k2)) (hup _ _ (Nat.le_max_right k1 k2)) h2
  have hskip : ∀ {gs : List Nat} {l : List Slot}, (match o.dst with
    | some d => gQ E T.Rw mv all draw os (i + 1) (upL l (.put d .und)) (acc ++ [⟨gs, [d], [], [d], [], [d]⟩]) κw
    | none => gQ E T.Rw mv all draw os (i + 1) l (acc ++ [⟨gs, [], [], [], [], []⟩]) κw) = some r →
    ∃ k, (match o.dst with
    | some d => gQ E (T.R k) mv all draw os (i + 1) (upL l (.put d .und)) (acc ++ [⟨gs, [d], [], [d], [], [d]⟩]) (κ k)
    | none => gQ E (T.R k) mv all draw os (i + 1) l (acc ++ [⟨gs, [], [], [], [], []⟩]) (κ k)) = some r := fun {gs l} h => by
   cases hd : o.dst with
   | some d => rw [hd] at h; exact Ab5 T hup hκ h
   | none => rw [hd] at h; exact Ab5 T hup hκ h
  unfold gQ at h ⊢
  simp only at h ⊢
  split at h
  ·exact hgo h
  ·rename_i j want hg
   split at h
   ·cases h
   ·rename_i g hgd
    split at h
    ·rename_i t hv
     cases t with
     | true =>
      simp only [cond_true] at h ⊢
      split at h
      ·rename_i hw; simp only [hw, if_true]; exact hgo h
      ·rename_i hw; simp only [hw]; exact hskip h
     | false =>
      simp only [cond_false] at h ⊢
      split at h
      ·rename_i hw; simp only [hw, if_true]; exact hskip h
      ·rename_i hw; simp only [hw]; exact hgo h
    ·exact hskip h
    ·cases h
end
end Go.Rf

end
section
namespace Go.Rf
set_option linter.unusedSectionVars false
variable [T : Laid]
section
variable {E : Env} {ρ : Type}
theorem A0T {k k' : List SV → (Out → Option ρ) → Option ρ} {κ κ' : Out → Option ρ} (hk : ∀ σ r, k σ κ = some r → k' σ κ' = some r) (hκ : ∀ o r, κ o = some r → κ' o = some r) : ∀ o r, BS5 k κ o = some r → BS5 k' κ' o = some r := by
 intro o r h
 obtain ⟨e, σ⟩ := o
 cases e with
 | nm => exact hk σ r h
 | ex id => exact hκ _ r h
 | ret => exact hκ _ r h
theorem Ae2 {id : Nat} {κ κ' : Out → Option ρ} (hκ : ∀ o r, κ o = some r → κ' o = some r) : ∀ o r, AO2 id κ o = some r → AO2 id κ' o = some r := by
 intro o r h
 obtain ⟨e, σ⟩ := o
 cases e with
 | ex j =>
  simp only [AO2] at h ⊢
  split at h
  ·rename_i c; rw [if_pos c]; exact hκ _ r h
  ·rename_i c; rw [if_neg c]; exact hκ _ r h
 | nm => exact hκ _ r h
 | ret => exact hκ _ r h
theorem qH {R R' : Run E} {L L' : lT} {f : FuncId} (hR : RLe R R') (hL : LLe L L') : ∀ {c : Code} {σ : List SV} {κ κ' : Out → Option ρ} {r : ρ}, (∀ o r, κ o = some r → κ' o = some r) → evB E R L f c σ κ = some r → evB E R' L' f c σ κ' = some r
 | .skip, σ, κ, κ', r, hκ, h => hκ _ r h
 | .exit _, σ, κ, κ', r, hκ, h => hκ _ r h
 | .ret, σ, κ, κ', r, hκ, h => hκ _ r h
 | .region id ops draw, σ, κ, κ', r, hκ, h => by
  simp only [evB, Af2] at h ⊢
  exact AB6 hR (fun l r => hκ _ r) h
 | .seq a b, σ, κ, κ', r, hκ, h => by
  simp only [evB] at h ⊢
  exact qH hR hL (A0T (fun σ r => qH hR hL hκ) hκ) h
 | .block id b, σ, κ, κ', r, hκ, h => by
  simp only [evB] at h ⊢
  exact qH hR hL (Ae2 hκ) h
 | .loop b, σ, κ, κ', r, hκ, h => by
  simp only [evB, A0L] at h ⊢
  obtain ⟨o, h1, h2⟩ := Option.bind_eq_some_iff.1 h
  exact Option.bind_eq_some_iff.2 ⟨o, hL _ _ _ _ h1, hκ _ r h2⟩
 | .cond c a b, σ, κ, κ', r, hκ, h => by
  simp only [evB] at h ⊢
  split at h
  ·split at h
   ·rename_i x hx
    cases x with
    | true => simp only [cond_true] at h ⊢; exact qH hR hL hκ h
    | false => simp only [cond_false] at h ⊢; exact qH hR hL hκ h
   ·split at h
    ·rename_i hu
     obtain ⟨h1, h2⟩ := AW0 h
     rw [if_pos hu]
     exact A4P (qH hR hL hκ h1) (qH hR hL hκ h2)
    ·cases h
   ·cases h
  ·rename_i x
   cases x with
   | true => simp only [cond_true] at h ⊢; exact qH hR hL hκ h
   | false => simp only [cond_false] at h ⊢; exact qH hR hL hκ h
  ·cases h
 | .rangeFunc _ _ _ _, _, _, _, _, _, h | .scope _, _, _, _, _, _, h | .label _, _, _, _, _, _, h | .goto _, _, _, _, _, _, h | .refuse _, _, _, _, _, _, h => by simp [evB] at h
theorem fN (T : Tower E) {f : FuncId} : ∀ {c : Code} {σ : List SV} {κ : Nat → Out → Option ρ} {κw : Out → Option ρ} {r : ρ}, (∀ j k, j ≤ k → ∀ o r, κ j o = some r → κ k o = some r) → (∀ o r, κw o = some r → ∃ k, κ k o = some r) →
  evB E T.Rw T.Lw f c σ κw = some r → ∃ k, evB E (T.R k) (T.L k) f c σ (κ k) = some r
 | .skip, σ, κ, κw, r, hup, hκ, h => hκ _ r h
 | .exit _, σ, κ, κw, r, hup, hκ, h => hκ _ r h
 | .ret, σ, κ, κw, r, hup, hκ, h => hκ _ r h
 | .region id ops draw, σ, κ, κw, r, hup, hκ, h => by
  simp only [evB, Af2] at h ⊢
  exact Ab5 T (κ := fun k l => κ k ⟨.nm, AL3 (E.cfg f).keep l l 0⟩) (fun j k hjk l r => hup j k hjk _ r) (fun l r => hκ _ r) h
 | .seq a b, σ, κ, κw, r, hup, hκ, h => by
  simp only [evB] at h ⊢
  refine fN T (κ := fun k => BS5 (evB E (T.R k) (T.L k) f b) (κ k)) (fun j k hjk => A0T (fun σ r => qH (T.leR hjk) (T.leL hjk) (hup j k hjk)) (hup j k hjk)) (fun o r ho => ?_) h
  obtain ⟨e, σ'⟩ := o
  cases e with
  | nm => exact fN T hup hκ ho
  | ex id => exact hκ _ r ho
  | ret => exact hκ _ r ho
 | .block id b, σ, κ, κw, r, hup, hκ, h => by
  simp only [evB] at h ⊢
  refine fN T (κ := fun k => AO2 id (κ k)) (fun j k hjk => Ae2 (hup j k hjk)) (fun o r ho => ?_) h
  obtain ⟨e, σ'⟩ := o
  cases e with
  | ex j =>
   simp only [AO2] at ho ⊢
   split at ho
   ·rename_i c; simp only [c, if_true]; exact hκ _ r ho
   ·rename_i c; simp only [c]; exact hκ _ r ho
  | nm => exact hκ _ r ho
  | ret => exact hκ _ r ho
 | .loop b, σ, κ, κw, r, hup, hκ, h => by
  simp only [evB, A0L] at h ⊢
  obtain ⟨o, h1, h2⟩ := Option.bind_eq_some_iff.1 h
  obtain ⟨k1, h1⟩ := (T.limL f b _ o).1 h1
  obtain ⟨k2, h2⟩ := hκ _ _ h2
  exact ⟨max k1 k2, Option.bind_eq_some_iff.2 ⟨o, T.leL (Nat.le_max_left _ _) _ _ _ _ h1, hup _ _ (Nat.le_max_right _ _) _ _ h2⟩⟩
 | .cond c a b, σ, κ, κw, r, hup, hκ, h => by
  simp only [evB] at h ⊢
  split at h
  ·split at h
   ·rename_i x hx
    cases x with
    | true => simp only [cond_true] at h ⊢; exact fN T hup hκ h
    | false => simp only [cond_false] at h ⊢; exact fN T hup hκ h
   ·split at h
    ·rename_i hu
     obtain ⟨h1, h2⟩ := AW0 h
     obtain ⟨k1, h1⟩ := fN T hup hκ h1
     obtain ⟨k2, h2⟩ := fN T hup hκ h2
     refine ⟨max k1 k2, ?_⟩
     simp only [hu, if_true]
     exact A4P (qH (T.leR (Nat.le_max_left _ _)) (T.leL (Nat.le_max_left _ _)) (hup _ _ (Nat.le_max_left _ _)) h1) (qH (T.leR (Nat.le_max_right _ _)) (T.leL (Nat.le_max_right _ _)) (hup _ _ (Nat.le_max_right _ _)) h2)
    ·cases h
   ·cases h
  ·rename_i x
   cases x with
   | true => simp only [cond_true] at h ⊢; exact fN T hup hκ h
   | false => simp only [cond_false] at h ⊢; exact fN T hup hκ h
  ·cases h
 | .rangeFunc _ _ _ _, _, _, _, _, _, _, h | .scope _, _, _, _, _, _, _, h | .label _, _, _, _, _, _, _, h | .goto _, _, _, _, _, _, _, h | .refuse _, _, _, _, _, _, _, h => by simp [evB] at h
theorem Ap4 {R R' : Run E} {L L' : lT} (hR : RLe R R') (hL : LLe L L') {f : FuncId} {ds : List Dyn} {x : (E.cfg f).rt.D} (h : zE E R L f ds = some x) : zE E R' L' f ds = some x := by
 unfold zE at h ⊢
 split at h
 ·split at h
  ·split at h
   ·rename_i hc; rw [if_pos hc]; exact qH hR hL (fun _ _ h => h) h
   ·cases h
  ·cases h
 ·cases h
theorem A8R (T : Tower E) {f : FuncId} {ds : List Dyn} {x : (E.cfg f).rt.D} (h : zE E T.Rw T.Lw f ds = some x) : ∃ k, zE E (T.R k) (T.L k) f ds = some x := by
 unfold zE at h ⊢
 split at h
 ·split at h
  ·split at h
   ·rename_i hc
    simp only [hc, if_true]
    exact fN T (κ := fun _ => _) (fun _ _ _ _ _ h => h) (fun _ _ h => ⟨0, h⟩) h
   ·cases h
  ·cases h
 ·cases h
def A9W (E : Env) (L : lT) (f : FuncId) (b : Code) : Out → Option Out
 | ⟨.nm, σ⟩ => L f b (killS (A43 (E.cfg f) b) σ)
 | o => some o
theorem AP5 {R : Run E} {L : lT} {f : FuncId} {b : Code} {σ : List SV} : Al9 E R L f b σ = evB E R L f b σ (A9W E L f b) := by
 unfold Al9
 congr
theorem AU8 {L L' : lT} (hL : LLe L L') {f : FuncId} {b : Code} : ∀ o r, A9W E L f b o = some r → A9W E L' f b o = some r := by
 intro o r h
 obtain ⟨e, σ⟩ := o
 cases e with
 | nm => exact hL _ _ _ _ h
 | ex id => exact h
 | ret => exact h
variable (X : (f : FuncId) → Option (List Dyn → Option (E.cfg f).rt.D))
theorem AD5 : ∀ k, RLe (vX E X k).1 (vX E X (k + 1)).1 ∧ LLe (vX E X k).2 (vX E X (k + 1)).2
 | 0 => ⟨fun _ _ _ h => by simp [vX] at h, fun _ _ _ _ h => by simp [vX] at h⟩
 | k + 1 => by
  obtain ⟨h1, h2⟩ := AD5 k
  refine ⟨fun f ds x h => ?_, fun f b σ o h => ?_⟩
  ·show AL5 E X (vX E X (k + 1)).1 (vX E X (k + 1)).2 f ds = some x
   have h : AL5 E X (vX E X k).1 (vX E X k).2 f ds = some x := h
   unfold AL5 at h ⊢
   split at h
   ·exact h
   ·exact Ap4 h1 h2 h
  ·show Al9 E (vX E X (k + 1)).1 (vX E X (k + 1)).2 f b σ = some o
   have h : Al9 E (vX E X k).1 (vX E X k).2 f b σ = some o := h
   rw [AP5] at h ⊢
   exact qH h1 h2 (AU8 h2) h
open Classical in
noncomputable def sup {α : Type} (s : Nat → Option α) : Option α := if h : ∃ x k, s k = some x then some h.choose else none
theorem A7Z {α : Type} {s : Nat → Option α} (hu : ∀ k x, s k = some x → s (k + 1) = some x) {x : α} : sup s = some x ↔ ∃ k, s k = some x := by
 have up : ∀ d k x, s k = some x → s (k + d) = some x := by
  intro d
  induction d with
  | zero => intro k x h; exact h
  | succ d ih => intro k x h; exact hu _ _ (ih k x h)
 have det : ∀ k k' x y, s k = some x → s k' = some y → x = y := fun k k' x y h h' => by
  have a := up k' k x h
  have b := up k k' y h'
  rw [Nat.add_comm] at b
  rw [a] at b; exact Option.some.inj b
 unfold sup
 constructor
 ·intro h
  split at h
  ·rename_i hx
   obtain ⟨k, hk⟩ := hx.choose_spec
   simp only [Option.some.injEq] at h
   exact ⟨k, by rw [← h]; exact hk⟩
  ·cases h
 ·rintro ⟨k, hk⟩
  have hx : ∃ x k, s k = some x := ⟨x, k, hk⟩
  rw [dif_pos hx]
  obtain ⟨k', hk'⟩ := hx.choose_spec
  rw [det _ _ _ _ hk' hk]
noncomputable def AD7 : Tower E where
 R k := (vX E X k).1
 L k := (vX E X k).2
 Rw f ds := sup fun k => (vX E X k).1 f ds
 Lw f b σ := sup fun k => (vX E X k).2 f b σ
 upR k := (AD5 X k).1
 upL k := (AD5 X k).2
 limR f ds _ := A7Z fun k x h => (AD5 X k).1 f ds x h
 limL f b σ _ := A7Z fun k x h => (AD5 X k).2 f b σ x h
noncomputable def run : Run E := (AD7 X).Rw
noncomputable def lps : lT := (AD7 X).Lw
theorem BF3 (f : FuncId) (ds : List Dyn) : run X f ds = AL5 E X (run X) (lps X) f ds := by
 have T := AD7 X
 apply Option.ext
 intro x
 constructor
 ·intro h
  obtain ⟨k, hk⟩ := ((AD7 X).limR f ds x).1 h
  cases k with
  | zero => cases (show (none : Option _) = some x from hk)
  | succ k =>
   have hk : AL5 E X (vX E X k).1 (vX E X k).2 f ds = some x := hk
   unfold AL5 at hk ⊢
   split at hk
   ·exact hk
   ·exact Ap4 (fun f ds x h => ((AD7 X).limR f ds x).2 ⟨k, h⟩) (fun f b σ o h => ((AD7 X).limL f b σ o).2 ⟨k, h⟩) hk
 ·intro h
  refine ((AD7 X).limR f ds x).2 ?_
  unfold AL5 at h
  split at h
  ·rename_i h' hX
   refine ⟨1, ?_⟩
   show AL5 E X (vX E X 0).1 (vX E X 0).2 f ds = some x
   unfold AL5
   rw [hX]; exact h
  ·rename_i hX
   obtain ⟨k, hk⟩ := A8R (AD7 X) h
   refine ⟨k + 1, ?_⟩
   show AL5 E X (vX E X k).1 (vX E X k).2 f ds = some x
   unfold AL5
   rw [hX]; exact hk
theorem BX9 (f : FuncId) (b : Code) (σ : List SV) : lps X f b σ = Al9 E (run X) (lps X) f b σ := by
 rw [AP5]
 apply Option.ext
 intro o
 constructor
 ·intro h
  obtain ⟨k, hk⟩ := ((AD7 X).limL f b σ o).1 h
  cases k with
  | zero => cases (show (none : Option _) = some o from hk)
  | succ k =>
   have hk : Al9 E (vX E X k).1 (vX E X k).2 f b σ = some o := hk
   rw [AP5] at hk
   have hL : LLe (vX E X k).2 (lps X) := fun f b σ o h => ((AD7 X).limL f b σ o).2 ⟨k, h⟩
   exact qH (fun f ds x h => ((AD7 X).limR f ds x).2 ⟨k, h⟩) hL (AU8 hL) hk
 ·intro h
  obtain ⟨k, hk⟩ := fN (AD7 X) (κ := fun k => A9W E ((AD7 X).L k) f b) (fun j k hjk => AU8 ((AD7 X).leL hjk)) (fun o r ho => by
   obtain ⟨e, σ'⟩ := o
   cases e with
   | nm => exact ((AD7 X).limL _ _ _ _).1 ho
   | ex id => exact ⟨0, ho⟩
   | ret => exact ⟨0, ho⟩) h
  refine ((AD7 X).limL f b σ o).2 ⟨k + 1, ?_⟩
  show Al9 E (vX E X k).1 (vX E X k).2 f b σ = some o
  rw [AP5]; exact hk
theorem BW3 {f : FuncId} (hX : X f = none) (ds : List Dyn) : run X f ds = zE E (run X) (lps X) f ds := by
 rw [BF3]; unfold AL5; rw [hX]
theorem BG0 (hX : ∀ f h, X f = some h → ∀ ds x, h ds = some x → BE7 E f ds x) (hm : E.P.follows .mixedOrders = true) (hN : AT9 E.P) : Al0 E (run X) := fun f ds x h => by
 obtain ⟨k, hk⟩ := ((AD7 X).limR f ds x).1 h
 exact (A1w hX hm hN k).1 f ds x hk
end
end Go.Rf

end
section
namespace Go.Rf
set_option linter.unusedSectionVars false
variable [T : Laid]
def iL : Ty → Bool
 | .int _ => true
 | .bool => true
 | .str => true
 | .unit => true
 | .sl t => iL t && Nat.blt 0 t.size
 | .arr _ t => iL t
 | .pair a b => iL a && iL b
 | _ => false
def At1 : (t : Ty) → t.D → Prop
 | .int k, x => (Lit.int k x).wf = true
 | .str, x => List.length x ≤ maxLen
 | .sl t, x => List.length x ≤ maxLen ∧ ∀ (i : Nat) (y : t.D), nth x i = some y → At1 t y
 | .arr _ t, x => ∀ (i : Nat) (y : t.D), nth x i = some y → At1 t y
 | .pair a b, x => At1 a x.1 ∧ At1 b x.2
 | _, _ => True
theorem AN1 {α : Type} {Q : Nat → α → Prop} : ∀ {n : Nat}, (∀ i, i < n → ∃ y, Q i y) → ∃ xs : List α, xs.length = n ∧ ∀ i y, nth xs i = some y → Q i y
 | 0, _ => ⟨[], rfl, by simp [nth]⟩
 | n + 1, h => by
  obtain ⟨xs, h1, h2⟩ := AN1 (n := n) fun i hi => h i (by omega)
  obtain ⟨y, hy⟩ := h n (by omega)
  refine ⟨xs ++ [y], by simp [h1], fun i z hz => ?_⟩
  simp only [nth] at hz h2
  rcases Nat.lt_or_ge i n with hi | hi
  ·rw [List.getElem?_append_left (by omega)] at hz; exact h2 i z hz
  ·rw [List.getElem?_append_right (by omega), h1] at hz
   have : i = n := by
    have := (List.getElem?_eq_some_iff.1 hz).1
    simp at this; omega
   subst this
   simp at hz
   subst hz; exact hy
theorem BP1 {α β : Type} {f : α → Option β} : ∀ {l : List α} {r : List β}, l.mapM f = some r → ∀ (i : Nat) (x : α), l[i]? = some x → ∃ y, f x = some y ∧ r[i]? = some y := fun {_ _} h i x hx => by
 have := mapM_some_get h i x hx
 have hl := mapM_some_length h
 have hi := (List.getElem?_eq_some_iff.1 hx).1
 exact ⟨_, this.trans (List.getElem?_eq_getElem (by omega)), List.getElem?_eq_getElem (by omega)⟩
section
variable {P : Program} {w : World} {H : Type} {enc : TypeId × Value → H} {sp : Nat → Bool} {held : Bool}
theorem A05 {a : Addr} {n : Nat} {c : List Value} (hn : 0 < n) (h : w.cells? 0 a n = some c) : ∃ cs e fz, a.spot = none ∧ w.heap[a.block]? = some (.cells cs e fz) ∧ a.off + n ≤ cs.size ∧ c = win cs.toList a.off n := by
 obtain ⟨b, o, spot⟩ := a
 unfold World.cells? at h
 rw [if_pos (Nat.zero_le _)] at h
 have hlen := mapM_some_length h
 have hat : ∀ i, i < n → ∃ y, w.cell? (Addr.add ⟨b, o, spot⟩ i) = some y ∧ c[i]? = some y := fun i hi => BP1 h i i (by simp [hi])
 have h0 := hat 0 hn
 obtain ⟨y0, h0, _⟩ := h0
 simp only [Addr.add, if_true, World.cell?] at h0
 cases hb : w.heap[b]? with
 | none => rw [hb] at h0; simp at h0
 | some ob =>
  cases ob with
  | cells cs e fz =>
   rw [hb] at h0
   simp only at h0
   split at h0
   ·cases h0
   ·rename_i hs
    have hs : spot = none := by cases spot <;> simp_all
    subst hs
    have hc : ∀ i, i < n → cs[o + i]? = c[i]? := fun i hi => by
     obtain ⟨y, h1, h2⟩ := hat i hi
     rw [kH] at h1
     simp only [World.cell?, hb] at h1
     rw [h2]
     simpa using h1
    have hsz : o + n ≤ cs.size := by
     have := hc (n - 1) (by omega)
     have h2 : n - 1 < c.length := by simp at hlen; omega
     rw [List.getElem?_eq_getElem h2] at this
     have := (Array.getElem?_eq_some_iff.1 this).1
     omega
    refine ⟨cs, e, fz, rfl, rfl, hsz, ?_⟩
    apply List.ext_getElem?
    intro i
    simp only [win]
    by_cases hi : i < n
    ·rw [List.getElem?_take_of_lt hi, List.getElem?_drop, ← hc i hi]
     simp
    ·rw [List.getElem?_eq_none (by simp at hlen; omega), List.getElem?_eq_none (by simp; omega)]
  | _ => rw [hb] at h0; simp at h0
theorem eS {d : Nat} {t : TypeId} {τ : Ty} (h : tyN P (d + 1) t = some τ) : P.cellsOf t = τ.size := by
 obtain ⟨i, u, h1, _, h3, _⟩ := oV h
 simp [Program.cellsOf, h1, h3]
theorem Ar6 {d fuel : Nat} (ih : ∀ (t : TypeId) (τ : Ty) (cs : List Value) (data : DataW H × List MemPlace), tyN P (d + 1) t = some τ → iL τ = true → DataW.trod enc P w 0 sp held fuel t cs = some data → ∃ x : τ.D, Rd (fun b => b < w.heap.size) w τ x cs ∧ At1 τ x) {cs : List Value} :
  ∀ {fs : List Field} {off : Nat} {τ : Ty}, pW (tyN P (d + 1)) fs off = some τ → iL τ = true →
   (∀ f ∈ fs, ∃ y, DataW.trod enc P w 0 sp held fuel f.type ((cs.drop f.offset).take (P.cellsOf f.type)) = some y) → cs.length = off + τ.size → ∃ x : τ.D, Rd (fun b => b < w.heap.size) w τ x (cs.drop off) ∧ At1 τ x
 | [], off, τ, hc, _, _, hl => by
  simp only [pW, Option.some.injEq] at hc
  subst hc
  simp only [Ty.size] at hl
  refine ⟨(), ?_, trivial⟩
  simp only [Rd]
  exact List.drop_eq_nil_iff.2 (by omega)
 | f :: fs, off, τ, hc, hp, hm, hl => by
  simp only [pW] at hc
  split at hc
  ·rename_i a ha
   split at hc
   ·rename_i ho
    have ho : f.offset = off := by simpa [Nat.beq_eq] using ho
    obtain ⟨b, hb, rfl⟩ := Option.map_eq_some_iff.1 hc
    simp only [iL, Bool.and_eq_true] at hp
    simp only [Ty.size] at hl
    obtain ⟨y, h1⟩ := hm f (by simp)
    rw [eS ha, ho] at h1
    obtain ⟨x, hx, hfx⟩ := ih f.type a _ y ha hp.1 h1
    obtain ⟨z, hz, hfz⟩ := Ar6 ih hb hp.2 (fun f' hf' => hm f' (by simp [hf'])) (by omega)
    refine ⟨(x, z), ?_, hfx, hfz⟩
    simp only [Rd]
    refine ⟨hx, ?_⟩
    rw [List.drop_drop]; exact hz
   ·cases hc
  ·cases hc
theorem Az3 : ∀ {d fuel : Nat} {t : TypeId} {τ : Ty} {cs : List Value} {data : DataW H × List MemPlace}, tyN P d t = some τ → iL τ = true → DataW.trod enc P w 0 sp held fuel t cs = some data →
  ∃ x : τ.D, Rd (fun b => b < w.heap.size) w τ x cs ∧ At1 τ x
 | 0, _, _, _, _, _, h, _, _ => by simp [tyN] at h
 | d + 1, fuel, t, τ, cs, data, ht, hp, h => by
  obtain ⟨i, u, hi, hu, hsz, hsh⟩ := oV ht
  have hcell : P.cellsOf t = τ.size := eS ht
  unfold oK at hsh
  split at hsh
  ·subst hsh
   obtain ⟨n, rfl, _, hw⟩ := DataW.trod_int hu h
   exact ⟨n, by simp only [Rd], hw⟩
  ·subst hsh
   obtain ⟨b, rfl, _⟩ := DataW.trod_bool hu h
   exact ⟨b, by simp only [Rd], trivial⟩
  ·subst hsh
   obtain ⟨s, rfl, _, hs⟩ := DataW.trod_string hu h
   exact ⟨s.data.toList, by simp only [Rd], by simp only [At1]; rw [Array.length_toList]; exact hs⟩
  ·subst hsh; simp [iL] at hp
  ·rename_i e
   obtain ⟨a, ha, rfl⟩ := hsh
   simp only [iL, Bool.and_eq_true] at hp
   have hpos : 0 < a.size := by have := hp.2; simpa [Nat.blt_eq] using this
   cases d with
   | zero => simp [tyN] at ha
   | succ d =>
   have hce := eS ha
   rcases DataW.trod_slice hu h with ⟨rfl, _⟩ | ⟨ad, len, cap, elems, rest, n, rfl, rfl, _, _, hlc, hcm, hel, hat, _, _⟩
   ·exact ⟨([] : List a.D), by simp only [Rd]; exact ⟨none, 0, rfl, Nat.le_refl _, .inl rfl⟩, by simp [At1, nth]⟩
   ·rw [hce] at hat
    have key : ∀ i, i < len → ∃ y : a.D, ∃ c, w.cells? 0 (ad.add (i * a.size)) a.size = some c ∧ Rd (fun b => b < w.heap.size) w a y c ∧ At1 a y := fun i hi => by
     have := hat i hi
     rw [List.getElem?_eq_getElem (by omega)] at this
     obtain ⟨c, h1, h2⟩ := Option.bind_eq_some_iff.1 this
     obtain ⟨y, hy, hf⟩ := Az3 ha hp.1 h2
     exact ⟨y, c, h1, hy, hf⟩
    obtain ⟨xs, hx1, hx2⟩ := AN1 key
    rcases Nat.eq_zero_or_pos len with h0 | h0
    ·refine ⟨xs, ?_, ?_⟩
     ·simp only [Rd]
      exact ⟨some ad, cap, by rw [hx1], by rw [hx1]; exact hlc, .inl (List.length_eq_zero_iff.1 (by omega))⟩
     ·simp only [At1]
      exact ⟨by rw [hx1]; omega, fun i y hy => (hx2 i y hy).choose_spec.2.2⟩
    ·obtain ⟨c0, hc0⟩ : ∃ c, w.cells? 0 (ad.add (0 * a.size)) a.size = some c := by
      obtain ⟨y, c, h1, _⟩ := key 0 h0; exact ⟨c, h1⟩
     obtain ⟨cs, ee, fz, hsp, hb, _, _⟩ := A05 hpos hc0
     obtain ⟨b, o, spot⟩ := ad
     simp only [Nat.zero_mul, Addr.add, if_true] at hsp hb
     subst hsp
     have hcell : ∀ i c, w.cells? 0 (Addr.add ⟨b, o, none⟩ (i * a.size)) a.size = some c → o + i * a.size + a.size ≤ cs.size ∧ c = win cs.toList (o + i * a.size) a.size := fun i c hc => by
      rw [kH] at hc
      obtain ⟨cs', ee', fz', _, hb', h3, h4⟩ := A05 hpos hc
      rw [hb] at hb'
      simp only [Option.some.injEq, Obj.cells.injEq] at hb'
      obtain ⟨rfl, _, _⟩ := hb'
      exact ⟨h3, h4⟩
     refine ⟨xs, ?_, ?_⟩
     ·simp only [Rd]
      refine ⟨some ⟨b, o, none⟩, cap, by rw [hx1], by rw [hx1]; exact hlc, .inr ⟨b, o, cs, rfl, (Array.getElem?_eq_some_iff.1 hb).1, ⟨ee, fz, hb⟩, ?_, fun i y hy => ?_⟩⟩
      ·obtain ⟨y, c, h1, _⟩ := key (len - 1) (by omega)
       have := (hcell _ _ h1).1
       rw [hx1]
       have e : len * a.size = (len - 1) * a.size + a.size := by
        rw [← Nat.succ_mul]; congr 1; omega
       omega
      ·obtain ⟨c, h1, h2, _⟩ := hx2 i y hy
       rw [← (hcell i c h1).2]; exact h2
     ·simp only [At1]
      exact ⟨by rw [hx1]; omega, fun i y hy => (hx2 i y hy).choose_spec.2.2⟩
  ·obtain ⟨a, _, rfl⟩ := hsh; simp [iL] at hp
  ·rename_i n e
   obtain ⟨a, ha, rfl⟩ := hsh
   simp only [iL] at hp
   cases d with
   | zero => simp [tyN] at ha
   | succ d =>
   have hce := eS ha
   obtain ⟨xs, m, rfl, _, hl, hxl, hat⟩ := DataW.trod_array hu h
   rw [hce] at hat
   rw [hcell] at hl
   have key : ∀ i, i < n → ∃ y : a.D, Rd (fun b => b < w.heap.size) w a y (win cs (i * a.size) a.size) ∧ At1 a y := fun i hi => by
    have := hat i hi
    rw [List.getElem?_eq_getElem (by omega)] at this
    exact Az3 ha hp this
   obtain ⟨ys, hy1, hy2⟩ := AN1 key
   refine ⟨ys, ?_, ?_⟩
   ·simp only [Rd]
    exact ⟨hy1, hl, fun i y hy => (hy2 i y hy).1⟩
   ·simp only [At1]
    exact fun i y hy => (hy2 i y hy).2
  ·rename_i fs
   cases d with
   | zero =>
    cases hfs : fs.toList with
    | nil =>
     rw [hfs] at hsh
     simp only [pW, Option.some.injEq] at hsh
     subst hsh
     obtain ⟨xs, n, rfl, _, hl, _, _⟩ := DataW.trod_struct hu h
     rw [hcell] at hl
     exact ⟨(), by simp only [Rd]; exact List.length_eq_zero_iff.1 hl, trivial⟩
    | cons f fs' =>
     rw [hfs] at hsh
     simp [pW, tyN] at hsh
   | succ d =>
   obtain ⟨xs, n, rfl, _, hl, hxl, hat⟩ := DataW.trod_struct hu h
   rw [hcell] at hl
   have := Ar6 (cs := cs) (fun t τ cs data h1 h2 h3 => Az3 h1 h2 h3) hsh hp (fun f hf => by
    obtain ⟨i, hi, e⟩ := List.mem_iff_getElem.1 hf
    have h1 : fs[i]? = some f := by
     rw [← Array.getElem?_toList, List.getElem?_eq_getElem hi, e]
    have := hat i f h1
    rw [List.getElem?_eq_getElem (by simp at hi; omega)] at this
    exact ⟨_, this⟩) (by omega)
   simpa using this
  ·exact hsh.elim
end
end Go.Rf

end
section
namespace Go.Rf
set_option linter.unusedSectionVars false
variable [T : Laid]
open Go.ChangeShapes Go.WideShapes Go.ChangeAt Go.RowKit
def A3q : List Dyn → Prop
 | [] => True
 | d :: ds => At1 d.t d.x ∧ A3q ds
section
variable {P : Program} {w : World} {H : Type} {enc : TypeId × Value → H} {sp : Nat → Bool} {held : Bool}
theorem A3A {d : Nat} {t : TypeId} {τ : Ty} {v : Value} (ht : tyN P (d + 1) t = some τ) (hp : iL τ = true) (hv : Value.okWide P w .any 0 t v ∨ ∃ b, Value.okWide P w .any b t v) : v = zX τ v.cells.toList := by
 have hv : ∃ b, Value.okWide P w .any b t v := hv.elim (fun h => ⟨0, h⟩) id
 obtain ⟨b, hv⟩ := hv
 obtain ⟨i, u, hi, hu, hsz, hsh⟩ := oV ht
 unfold oK at hsh
 split at hsh
 ·subst hsh; obtain ⟨n, rfl⟩ := okWide_int hu hv; rfl
 ·subst hsh; obtain ⟨n, rfl⟩ := okWide_bool hu hv; rfl
 ·subst hsh; obtain ⟨n, rfl⟩ := okWide_string hu hv; rfl
 ·subst hsh; simp [iL] at hp
 ·obtain ⟨a, _, rfl⟩ := hsh; obtain ⟨_, _, _, rfl⟩ := okWide_slice hu hv; rfl
 ·obtain ⟨a, _, rfl⟩ := hsh; simp [iL] at hp
 ·obtain ⟨a, _, rfl⟩ := hsh
  unfold Value.okWide at hv
  rw [hu] at hv
  obtain ⟨cs, rfl, _⟩ := hv
  simp [zX, Ty.agg, Value.cells]
 ·obtain ⟨cs, rfl, _⟩ := okWide_struct hu hv
  rcases qX hsh with rfl | ⟨a, b, rfl⟩ <;> simp [zX, Ty.agg, Value.cells]
 ·exact hsh.elim
theorem A1V : ∀ {ts : List TypeId} {vs : List Value} {ds : List (DataW H)} {ps : List MemPlace} {tys : List Ty} {b : Nat}, DataW.TrodAll enc P w 0 sp held ts vs ds ps → ts.map (tyN P 8) = tys.map some → tys.all iL = true →
  (∀ (j : Nat) (t : TypeId) (v : Value), ts[j]? = some t → vs[j]? = some v → Value.okWide P w .any b t v) →
  ∃ dy cs, AA0 (fun b => b < w.heap.size) w dy cs ∧ zZ dy cs = vs ∧ dy.map Dyn.t = tys ∧ A3q dy ∧ ds.length = ts.length
 | [], [], [], ps, tys, b, _, ht, _, _ => by
  cases tys with
  | nil => exact ⟨[], [], by simp [AA0], by simp [zZ], rfl, trivial, rfl⟩
  | cons _ _ => simp at ht
 | t :: ts, v :: vs, d :: ds, ps, tys, b, h, ht, hp, hv => by
  cases tys with
  | nil => simp at ht
  | cons τ tys =>
   simp only [List.map_cons, List.cons.injEq] at ht
   simp only [List.all_cons, Bool.and_eq_true] at hp
   obtain ⟨p, q, ⟨fuel, h1⟩, h2, _⟩ := h
   obtain ⟨x, hx, hf⟩ := Az3 ht.1 hp.1 h1
   obtain ⟨dy, cs, q1, q2, q3, q4, q5⟩ := A1V h2 ht.2 hp.2 (fun j t' v' h1 h2 => hv (j + 1) t' v' (by simpa using h1) (by simpa using h2))
   refine ⟨⟨τ, x⟩ :: dy, v.cells.toList :: cs, ⟨hx, q1⟩, ?_, by simp [q3], ⟨hf, q4⟩, by simp [q5]⟩
   simp only [zZ, q2]
   rw [← A3A ht.1 hp.1 (.inr ⟨b, hv 0 t v rfl rfl⟩)]
 | [], _ :: _, _, _, _, _, h, _, _, _ => by simp [DataW.TrodAll] at h
 | [], [], _ :: _, _, _, _, h, _, _, _ => by simp [DataW.TrodAll] at h
 | _ :: _, [], _, _, _, _, h, _, _, _ => by simp [DataW.TrodAll] at h
 | _ :: _, _ :: _, [], _, _, _, h, _, _, _ => by simp [DataW.TrodAll] at h
theorem AR4 (hl : laidOutB P = true) {W W' : World} (hb : Below W.heap.size W W') : ∀ {ts : List TypeId} {vs : List Value} {ds : List (DataW H)} {ps : List MemPlace}, DataW.TrodAll enc P W 0 (fun _ => true) true ts vs ds ps →
  (∀ t ∈ ts, P.readableRec t = true ∧ t < P.types.size) → DataW.TrodAll enc P W' 0 (fun b => decide (b < W.heap.size)) true ts vs ds ps
 | [], [], [], ps, h, _ => h
 | t :: ts, v :: vs, d :: ds, ps, h, hr => by
  obtain ⟨p, q, h1, h2, rfl⟩ := h
  refine ⟨p, q, ?_, AR4 hl hb h2 fun t' h' => hr t' (by simp [h']), rfl⟩
  have ⟨fuel, h1'⟩ := h1
  exact Below.trod hl (hr t (by simp)).1 (hr t (by simp)).2 h1 hb (DataW.trod_lt fuel _ _ _ h1')
 | [], _ :: _, _, _, h, _ => by simp [DataW.TrodAll] at h
 | [], [], _ :: _, _, h, _ => by simp [DataW.TrodAll] at h
 | _ :: _, [], _, _, h, _ => by simp [DataW.TrodAll] at h
 | _ :: _, _ :: _, [], _, h, _ => by simp [DataW.TrodAll] at h
end
def A7f : (t : Ty) → t.D → Bool
 | .pair .bool _, x => x.1
 | _, _ => false
theorem BH6 : ∀ {tys : List Ty} {dy : List Dyn}, dy.map Dyn.t = tys → Al3 (tys.map .ro) dy = true
 | [], [], _ => rfl
 | t :: tys, d :: dy, h => by
  simp only [List.map_cons, List.cons.injEq] at h
  simp only [List.map_cons, Al3, h.1, decide_true, Bool.true_and]
  exact BH6 h.2
 | [], _ :: _, h => by simp at h
 | _ :: _, [], h => by simp at h
theorem BB5 {E : Env} {R : Run E} (hR : Al0 E R) {f : FuncId} {fn : Func} {W : World} {tys : List Ty} {dy : List Dyn} {cs : List (List Value)} (hfn : E.P.funcs[f]? = some fn) (hb : fn.body.isNone = false) {keep : List Nat} {mv : List (Nat × Nat)}
  (hcfg : E.cfg f = ⟨tys.map .ro, 1, .pair .bool .unit, .sh, keep, mv⟩) (hdy : dy.map Dyn.t = tys) (hrd : AA0 (fun b => b < W.heap.size) W dy cs) {x : (E.cfg f).rt.D} (hx : R f dy = some x) (ht : A7f _ x = true) (htab : ∀ t ∈ T.tabs, Blk W t.1 t.2) :
  Calls E.P f (zZ dy cs).toArray W fun e W' => e = .returned (.bool true) ∧ Below W.heap.size W W' := by
 have h := hR f dy x hx W (fun b => b < W.heap.size) (fun _ => none) cs ⟨fun _ _ _ h => by simp at h, fun _ _ h => by simp at h, fun _ _ h => by simp at h, fun _ h => h, fun t ht => ⟨(htab t ht).lt, htab t ht⟩⟩ (A7S (by rw [hcfg]; exact BH6 hdy) hrd)
 have post : ∀ v W', Ret (E.cfg f) x cs W (fun b => b < W.heap.size) (fun _ => none) v W' → v = .bool true ∧ Below W.heap.size W W' := by
  rintro v W' ⟨S', β', crs, h1, h2, h3, h4, h5⟩
  refine ⟨?_, ⟨h2.out.os, h2.out.tape, h2.out.output, h2.size, fun k hk => h2.old k hk (fun _ => by simp)⟩⟩
  have key : ∀ (c : FCfg) (x : c.rt.D), c = ⟨tys.map .ro, 1, .pair .bool .unit, .sh, keep, mv⟩ → A7f _ x = true → qZ S' β' W' c.nres 0 c.rt c.rf x crs → v = AY5 (nU c.nres c.rt crs) → v = .bool true := by
   intro c x hc ht h3 h4
   subst hc
   match crs, h3 with
   | [c], h3 =>
    simp only [qZ] at h3
    have := h3.1
    simp only [Fl.l] at this
    rw [yM] at this
    simp only [Rd] at this
    subst this
    have ht : x.1 = true := ht
    rw [h4]
    show Value.bool x.1 = _
    rw [ht]
   | [], h3 => simp [qZ] at h3
   | _ :: _ :: _, h3 => simp [qZ] at h3
  exact key _ x hcfg ht h3 h4
 rcases h with ⟨fn', _, _, _, h⟩ | ⟨v, w', hrun, hret⟩
 ·refine h.mono fun e W' he => ?_
  cases e with
  | returned v => obtain ⟨rfl, hb⟩ := post v W' he; exact ⟨rfl, hb⟩
  | panicked _ => exact he.elim
  | outgrown => exact he.elim
 ·exfalso
  have hb' : fn.body ≠ none := fun e => by rw [e] at hb; simp at hb
  by_cases hnm : fn.name = "runtime.NumGoroutine"
  ·have hr : (callFunc f (zZ dy cs).toArray).run E.P W = .ok .numGoroutine W := by
    simp only [callFunc, go_sem]
    simp [hfn, hnm]
   rw [hr] at hrun; simp at hrun
  ·have hr : (callFunc f (zZ dy cs).toArray).run E.P W = .ok (.enter f (zZ dy cs).toArray) W := by
    simp only [callFunc, go_sem]
    simp [hfn, hnm, hb']
   rw [hr] at hrun; simp at hrun
theorem BN2 {C : Checked} {cfg : FuncId → FCfg} {R : Run ⟨C.prog, cfg⟩} (hR : Al0 ⟨C.prog, cfg⟩ R) {f : FuncId} {fn : Func} {s : ChangeSpec} {tys : List Ty} {keep : List Nat} {mv : List (Nat × Nat)} {tb : TypeId} {n : Nat}
  (hcfg : cfg f = ⟨tys.map .ro, 1, .pair .bool .unit, .sh, keep, mv⟩) (hfn : C.prog.funcs[f]? = some fn) (hb : fn.body.isNone = false) (hty : fn.params.toList.map (tyN C.prog 8) = tys.map some) (hp : tys.all iL = true)
  (hvars : s.vars = []) (hs : ∀ (H : Type) (ds : List (DataW H)), ds.length = n → s.fn H ds = { results := [.lit (.bool true)], args := ds }) (hn : fn.params.toList.length = n) (hrt : fn.resultTypes = #[tb]) (hut : C.prog.underlying tb = some .bool)
  (hl : laidOutB C.prog = true) (hr : ∀ t ∈ fn.params.toList, C.prog.readableRec t = true ∧ t < C.prog.types.size)
  (hx : ∀ dy : List Dyn, dy.map Dyn.t = tys → A3q dy → ∃ x, R f dy = some x ∧ A7f _ x = true)
  {H : Type} (enc : TypeId × Value → H) (W : World) (htab : ∀ t ∈ T.tabs, Blk W t.1 t.2) (base : Nat) (args : Array Value) (ds gs : List (DataW H)) (before : List MemPlace)
  (hval : ∀ (j : Nat) t v, fn.params[j]? = some t → args[j]? = some v → Value.okWide C.prog W .any base t v)
  (hW : DataW.Whole enc C.prog fn.params.toList s.vars false W args.toList ds gs before) :
  Calls C.prog f args W fun e W' => ∃ v, e = .returned v ∧ s.post enc C.prog fn false true false false W args v W' := by
 have hW' := hW
 obtain ⟨p, q, hA, hV, rfl, hfz, hnd⟩ := hW
 rw [hvars] at hV
 obtain ⟨rfl, rfl⟩ := trodVars_none hV
 obtain ⟨dy, cs, h1, h2, h3, h4, h5⟩ := A1V (b := base) hA hty hp (fun j t v hj hv => hval j t v (by simpa using hj) (by simpa using hv))
 obtain ⟨x, hx1, hx2⟩ := hx dy h3 h4
 have hc := BB5 hR hfn hb hcfg h3 h1 hx1 hx2 htab
 have hargs : (zZ dy cs).toArray = args := by rw [h2]
 rw [hargs] at hc
 refine hc.mono fun e W' ⟨he, bel⟩ => ?_
 refine ⟨_, he, ds, [], _, [], p, [], hW', ?_, ?_, ?_, bel.frame _, fun h => by cases h⟩
 ·rw [hs H (ds ++ []) (by simp [h5, hn]), hrt]
  exact trodAll_mk1 (shut_bool hut _)
 ·rw [hs H (ds ++ []) (by simp [h5, hn])]
  simp only [List.append_nil]
  exact AR4 hl bel hA hr
 ·rw [hvars, hs H (ds ++ []) (by simp [h5, hn])]
  rfl
end Go.Rf

end
section
namespace Go.Rf
set_option linter.unusedSectionVars false
variable [T : Laid]
def A3E : List (Nat × FCfg) → FuncId → FCfg
 | [], _ => ⟨[], 0, .unit, .sh, [], []⟩
 | (n, c) :: l, f => cond (Nat.beq n f) c (A3E l f)
def BZ7 (P : Program) : Bool := P.funcs.toList.all fun fn => !(fn.name == "runtime.NumGoroutine")
theorem Ao0 {P : Program} (h : BZ7 P = true) : AT9 P := fun f fn hf => by
 have := List.all_eq_true.1 h fn (by
  obtain ⟨hi, e⟩ := Array.getElem?_eq_some_iff.1 hf
  rw [← e]; exact Array.mem_toList_iff.2 (Array.getElem_mem hi))
 simpa using this
def vJ (E : Env) (R : Run E) (v : FnVal) (ds : List Dyn) : Option Bool := A8t E R v ds .bool
def kO : Code → List Nat → Bool
 | .loop (.loop _), [] => false
 | .loop _, [] => true
 | .seq a _, 0 :: p => kO a p
 | .seq _ b, 1 :: p => kO b p
 | .cond _ a _, 0 :: p => kO a p
 | .cond _ _ b, 1 :: p => kO b p
 | .block _ b, 0 :: p => kO b p
 | .loop b, 0 :: p => kO b p
 | _, _ => false
section
variable {E : Env} {X : (f : FuncId) → Option (List Dyn → Option (E.cfg f).rt.D)} {ρ : Type} {f : FuncId}
theorem AO0 {R : Run E} {ρ' : Type} {mv : List Nat} {all : List Oper} {draw : Bool} {κ1 : List Slot → Option ρ} {κ2 : ρ → Option ρ'} : ∀ {os : List Oper} {i : Nat} {l : List Slot} {acc : List Rec},
  gQ E R mv all draw os i l acc (fun l => (κ1 l).bind κ2) = (gQ E R mv all draw os i l acc κ1).bind κ2
 | [], i, l, acc => by
  unfold gQ
  split
  ·split <;> rfl
  ·rfl
 | o :: os, i, l, acc => by
  have hgo : ∀ {gs : List Nat} {l : List Slot}, opK E R (mv.any (Nat.beq i ·)) (sG l (Ak0 o l)) o (fun us => gQ E R mv all draw os (i + 1) (mL l us) (acc ++ [(AR9 (mv.any (Nat.beq i ·)) gs l o us : Rec)]) (fun l => (κ1 l).bind κ2)) =
    (opK E R (mv.any (Nat.beq i ·)) (sG l (Ak0 o l)) o (fun us => gQ E R mv all draw os (i + 1) (mL l us) (acc ++ [(AR9 (mv.any (Nat.beq i ·)) gs l o us : Rec)]) κ1)).bind κ2 := fun {gs l} => by
   have e1 := aA (E := E) (R := R) (mv := mv.any (Nat.beq i ·)) (g := sG l (Ak0 o l)) (o := o) (κ := fun us => gQ E R mv all draw os (i + 1) (mL l us) (acc ++ [(AR9 (mv.any (Nat.beq i ·)) gs l o us : Rec)]) κ1)
   rw [aA, e1, Option.bind_assoc]
   congr
   funext us
   exact AO0
  have hskip : ∀ {gs : List Nat} {l : List Slot}, (match o.dst with
    | some d => gQ E R mv all draw os (i + 1) (upL l (.put d .und)) (acc ++ [(⟨gs, [d], [], [d], [], [d]⟩ : Rec)]) (fun l => (κ1 l).bind κ2)
    | none => gQ E R mv all draw os (i + 1) l (acc ++ [(⟨gs, [], [], [], [], []⟩ : Rec)]) (fun l => (κ1 l).bind κ2)) =
    (match o.dst with
    | some d => gQ E R mv all draw os (i + 1) (upL l (.put d .und)) (acc ++ [(⟨gs, [d], [], [d], [], [d]⟩ : Rec)]) κ1
    | none => gQ E R mv all draw os (i + 1) l (acc ++ [(⟨gs, [], [], [], [], []⟩ : Rec)]) κ1).bind κ2 := fun {gs l} => by
   cases hd : o.dst with
   | some d => exact AO0
   | none => exact AO0
  unfold gQ
  simp only
  split
  ·exact hgo
  ·split
   ·rfl
   ·split
    ·rename_i t hv
     cases t with
     | true =>
      simp only [cond_true]
      split
      ·exact hgo
      ·exact hskip
     | false =>
      simp only [cond_false]
      split
      ·exact hskip
      ·exact hgo
    ·exact hskip
    ·rfl
theorem eN {R : Run E} {L : lT} {ρ' : Type} {κ2 : ρ → Option ρ'} (hu : A6W (E.cfg f).keep = false) : ∀ {c : Code} {σ : List SV} {κ1 : Out → Option ρ}, evB E R L f c σ (fun o => (κ1 o).bind κ2) = (evB E R L f c σ κ1).bind κ2
 | .skip, _, _ => rfl
 | .exit _, _, _ => rfl
 | .ret, _, _ => rfl
 | .region id ops draw, σ, κ1 => by
  simp only [evB, Af2]
  exact AO0 (κ1 := fun l => κ1 ⟨.nm, AL3 (E.cfg f).keep l l 0⟩)
 | .seq a b, σ, κ1 => by
  simp only [evB]
  rw [← eN hu (c := a)]
  congr
  funext o
  obtain ⟨e, σ'⟩ := o
  cases e with
  | nm => exact eN hu
  | ex id => rfl
  | ret => rfl
 | .block id b, σ, κ1 => by
  simp only [evB]
  rw [← eN hu (c := b)]
  congr
  funext o
  obtain ⟨e, σ'⟩ := o
  cases e with
  | ex j => simp only [AO2]; split <;> rfl
  | nm => rfl
  | ret => rfl
 | .loop b, σ, κ1 => by
  simp only [evB, A0L]
  rw [Option.bind_assoc]
 | .cond c a b, σ, κ1 => by
  simp only [evB]
  split
  ·split
   ·rename_i x hx
    cases x with
    | true => simp only [cond_true]; exact eN hu
    | false => simp only [cond_false]; exact eN hu
   ·simp only [hu, Bool.false_eq_true, if_false]; rfl
   ·rfl
  ·rename_i x
   cases x with
   | true => simp only [cond_true]; exact eN hu
   | false => simp only [cond_false]; exact eN hu
  ·rfl
 | .rangeFunc _ _ _ _, _, _ | .scope _, _, _ | .label _, _, _ | .goto _, _, _ | .refuse _, _, _ => rfl
theorem A2X (hu : A6W (E.cfg f).keep = false) {b : Code} {σ : List SV} {κ : Out → Option ρ} : A0L (lps X) f b σ κ = evB E (run X) (lps X) f b σ (BX1 E (lps X) f b κ) := by
 unfold A0L
 rw [BX9, AP5, ← eN hu]
 congr
 funext o
 obtain ⟨e, σ'⟩ := o
 cases e <;> rfl
theorem oG (hu : A6W (E.cfg f).keep = false) : ∀ {c : Code} {p : List Nat} {σ : List SV} {κ : Out → Option ρ}, kO c p = true →
  A4D E (run X) (lps X) f (sub c p) σ (hJ E (run X) (lps X) f c p κ) = A4D E (run X) (lps X) f (sub c (p ++ [0])) σ (hJ E (run X) (lps X) f c (p ++ [0]) κ)
 | .loop b, [], σ, κ, h => by
  have e : ∀ κ' : Out → Option ρ, A4D E (run X) (lps X) f b σ κ' = evB E (run X) (lps X) f b σ κ' := fun κ' => by
   cases b <;> first | rfl | simp [kO] at h
  simp only [sub, List.nil_append, hJ]
  rw [e]
  exact A2X hu
 | .seq a _, 0 :: p, σ, κ, h => by simp only [kO] at h; simp only [sub, hJ, List.cons_append]; exact oG hu h
 | .seq _ b, 1 :: p, σ, κ, h => by simp only [kO] at h; simp only [sub, hJ, List.cons_append]; exact oG hu h
 | .cond _ a _, 0 :: p, σ, κ, h => by simp only [kO] at h; simp only [sub, hJ, List.cons_append]; exact oG hu h
 | .cond _ _ b, 1 :: p, σ, κ, h => by simp only [kO] at h; simp only [sub, hJ, List.cons_append]; exact oG hu h
 | .block _ b, 0 :: p, σ, κ, h => by simp only [kO] at h; simp only [sub, hJ, List.cons_append]; exact oG hu h
 | .loop b, 0 :: p, σ, κ, h => by simp only [kO] at h; simp only [sub, hJ, List.cons_append]; exact oG hu h
 | .skip, _, _, _, h | .region _ _ _, _, _, _, h | .exit _, _, _, _, h | .ret, _, _, _, h | .rangeFunc _ _ _ _, _, _, _, h | .scope _, _, _, _, h | .label _, _, _, _, h | .goto _, _, _, _, h | .refuse _, _, _, _, h => by simp [kO] at h
 | .seq _ _, [], _, _, h | .cond _ _ _, [], _, _, h | .block _ _, [], _, _, h => by simp [kO] at h
 | .seq _ _, (_ + 2) :: _, _, _, h | .cond _ _ _, (_ + 2) :: _, _, _, h | .block _ _, (_ + 1) :: _, _, _, h | .loop _, (_ + 1) :: _, _, _, h => by simp [kO] at h
theorem A79 {fn : Func} {p : List Nat} {σ : List SV} (h : (kO (A4K fn) p && !A6W (E.cfg f).keep) = true) : yC E (run X) (lps X) f fn p σ = yC E (run X) (lps X) f fn (p ++ [0]) σ := by
 rw [Bool.and_eq_true, Bool.not_eq_true'] at h
 exact oG h.2 h.1
end
end Go.Rf

end
section
namespace Go.Rf
set_option linter.unusedSectionVars false
variable [T : Laid]
theorem nn (i : Nat) : zA (i : Int) = true := by simp [zA]
theorem tn (i : Nat) : Int.toNat (i : Int) = i := Int.toNat_natCast i
theorem yP {i n : Nat} (h : i < n) : Nat.blt i n = true := by simpa [Nat.blt_eq] using h
theorem A2B {i n : Nat} (h : i < n) : decide ((i : Int) < (n : Int)) = true := by simpa using h
theorem A2M {i n : Nat} (h : n ≤ i) : decide ((i : Int) < (n : Int)) = false := by simpa using h
theorem zO {n : Int} (h1 : -9223372036854775808 ≤ n) (h2 : n ≤ 9223372036854775807) : IntKind.wrap .i64 n = n := by
 have e : ∀ m : Int, (if (IntKind.i64.signed && decide (m ≥ (2 ^ (IntKind.i64.bits - 1) : Int))) = true then m - (2 ^ IntKind.i64.bits : Int) else m) = if (9223372036854775808 : Int) ≤ m then m - 18446744073709551616 else m := fun m => by
  by_cases h : (9223372036854775808 : Int) ≤ m
  ·rw [if_pos h, if_pos]
   ·rfl
   ·show (true && decide (m ≥ (9223372036854775808 : Int))) = true
    simpa using h
  ·rw [if_neg h, if_neg]
   show ¬ (true && decide (m ≥ (9223372036854775808 : Int))) = true
   simpa using h
 unfold IntKind.wrap
 refine (e _).trans ?_
 show (if (9223372036854775808 : Int) ≤ n % 18446744073709551616 then n % 18446744073709551616 - 18446744073709551616 else n % 18446744073709551616) = n
 split <;> omega
theorem zB {i : Nat} (h : i < 9223372036854775807) : IntKind.wrap .i64 ((i : Int) + 1) = ((i + 1 : Nat) : Int) := by
 rw [zO (by omega) (by omega)]; omega
theorem oJ {a b : Int} : eqI a b = decide (a = b) := rfl
theorem Ai9 {a b : List UInt8} : eqS a b = decide (a = b) := rfl
theorem uB {n : Nat} (h : n ≤ 1099511627776) : yB n = true := by simpa [yB, Nat.ble_eq] using h
theorem sN {α : Type} {l : List α} {i : Nat} {d : α} (h : i < l.length) : l.getD i d ∈ l := by
 rw [List.getD_eq_getElem?_getD, List.getElem?_eq_getElem h]; exact List.getElem_mem h
theorem qY {α : Type} {l : List α} {i : Nat} {d : α} (h : i < l.length) : l.drop i = l.getD i d :: l.drop (i + 1) := by
 rw [List.getD_eq_getElem?_getD, List.getElem?_eq_getElem h, List.drop_eq_getElem_cons h]; rfl
theorem A9i {t : Ty} {x : List t.D} (h : At1 (.sl t) x) : ∀ s ∈ x, At1 t s := fun s hs => by
 obtain ⟨i, hi, e⟩ := List.mem_iff_getElem.1 hs
 refine h.2 i s ?_
 show x[i]? = some s
 rw [List.getElem?_eq_getElem hi, e]
end Go.Rf

end
section
namespace Go.Rf
set_option linter.unusedSectionVars false
variable [T : Laid]
def mapM {α : Type} (f : α → Nat → α × Nat) : List α → Nat → List α × Nat
 | [], k => ([], k)
 | x :: xs, k => ((f x k).1 :: (mapM f xs (f x k).2).1, (mapM f xs (f x k).2).2)
def A9R {α : Type} (p : α → Bool) : List α → Nat → Int
 | [], _ => -1
 | x :: xs, i => cond (p x) (i : Int) (A9R p xs (i + 1))
theorem AF9 {α : Type} (p : α → Bool) : ∀ (l : List α) (i : Nat), decide (0 ≤ A9R p l i) = l.any p
 | [], _ => rfl
 | x :: xs, i => by
  show decide (0 ≤ cond (p x) (i : Int) (A9R p xs (i + 1))) = (p x || xs.any p)
  cases p x with
  | true => exact decide_eq_true (by simp only [cond_true]; omega)
  | false => simp only [cond_false, Bool.false_or]; exact AF9 p xs (i + 1)
theorem AV4 {α : Type} (F : Int → Int → Option (Int × Unit)) (v : List α) (d : α) (p : α → Bool)
  (stop : ∀ a, F a (v.length : Nat) = some (-1, ()))
  (step : ∀ (a : Int) (i : Nat), i < v.length → F a i = cond (p (v.getD i d)) (some ((i : Int), ())) (F i ((i + 1 : Nat) : Int))) :
  ∀ (n i : Nat) (a : Int), v.length - i = n → i ≤ v.length → F a i = some (A9R p (v.drop i) i, ())
 | 0, i, a, hn, hi => by
  have : i = v.length := by omega
  subst this
  rw [stop, List.drop_eq_nil_of_le (Nat.le_refl _)]; rfl
 | n + 1, i, a, hn, hi => by
  rw [step a i (by omega), qY (d := d) (by omega), AV4 F v d p stop step n (i + 1) i (by omega) (by omega)]
  show _ = some (cond (p (v.getD i d)) (i : Int) (A9R p (v.drop (i + 1)) (i + 1)), ())
  cases p (v.getD i d) <;> rfl
theorem Ad9 {α : Type} (p : α → Bool) (l : List α) : (!l.any fun x => !p x) = l.all p := by
 simp [List.all_eq_not_any_not]
theorem gs {α : Type} {l : List α} {i : Nat} {a d : α} (h : i < l.length) : (l.set i a).getD i d = a := by
 rw [List.getD_eq_getElem?_getD, List.getElem?_set]; simp [h]
theorem ss {α : Type} {l : List α} {i : Nat} {a b : α} : (l.set i a).set i b = l.set i b := List.set_set ..
end Go.Rf

end
