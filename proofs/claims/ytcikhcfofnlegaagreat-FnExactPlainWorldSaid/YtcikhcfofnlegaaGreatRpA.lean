/- An interpreter of the code over plain data, proved right against the machine: part 1. No condition. -/
import GoSem.Step
import Derived.Calls
import Derived.Laws.Cells
import Derived.Laws.Strings
import Derived.Laws.Strings2
import Derived.Laws.Concat
import Derived.Laws.BytesString
import Derived.Laws.BytesArg
import Derived.Laws.StructEq
import Derived.Laws.IdiomStrings
import Derived.Laws.Cover3
open Option.some renaming injEq->Aa,inj->A4
open Prod.mk renaming injEq->Ab
open List renaming length->Ac,cons_append->Ad,getD->Ak,cons_prefix_cons->Al,nil_append->Aw,replicate->Az,length_eq_one_iff->A1,append_assoc->A5,getElem?_eq_some_iff->A8,append_nil->A9,ext_getElem?->AB,mem_cons->AF,map_congr_left->AH,set->AJ,getElem?_take_of_lt->AL,length_cons->AN,getElem?_eq_none->AQ,drop_drop->AS,getElem?_append->AT,getElem?_drop->AY,getElem?_set->Bb,not_mem_nil->Bg,length_set->Bk,map->Bl,map_cons->Bp,drop->Bq
open Bool renaming and_eq_true->Ae,false_or->As,cond_eq_ite->At,false_eq_true->A3,not_eq_true'->A6,eq_iff_iff->AG,not_eq_true->Bh,and_true->Bo
open Nat renaming mul_le_mul_right->Af,beq->Ag,le_refl->Ai,le_trans->Ao,add_mul->Ap,beq_eq->A2,blt->AE,ble->AI,blt_eq->AK,lt_or_gt_of_ne->AZ,add_zero->Bd,zero_le->Bj
open Option renaming map_eq_some_iff->Ah,map_some->Av,bind_some->AM
open _root_ renaming decide_eq_true_eq->Aj,congrArg->Am,if_neg->Aq,if_pos->Ar,if_true->Au,true_and->Bc,and_true->Bm
open List.cons renaming injEq->Ax
open Array renaming length_toList->Ay,getElem?_eq_some_iff->A7,toList_inj->AD,getElem?_modify->AR
open BitVec renaming ofInt->A0
open Go.Op renaming equalIn->AA,intCmp->AO,intBits->AP,intArith->AU,equal->Bn
open Go.Builtin renaming len_->AC,min_->Bf
open Go.Instr renaming index->AV
open Ne renaming symm->AW
open Go.World renaming setCell->AX
open Int renaming not_lt->Ba
open Go.Value.slice renaming injEq->Be
open ByteArray renaming toList->Bi
open Go.Addr renaming add->Br
set_option linter.unusedVariables false
set_option linter.unusedSimpArgs false
section
namespace Go.Rf
inductive Ty where
 | int (k:IntKind)
 | bool
 | str
 | fn
 | unit
 | sl (t:Ty)
 | ptr (t:Ty)
 | arr (n:Nat) (t:Ty)
 | pair (a b:Ty)
 deriving DecidableEq,Inhabited
def Ty.size:Ty→Nat
 | .arr n t=>n * t.size
 | .unit=>0
 | .pair a b=>a.size+b.size
 | _=>1
def Ty.agg:Ty→Bool
 | .arr _ _=>true
 | .unit=>true
 | .pair _ _=>true
 | _=>false
mutual
inductive FnVal where
 | nil
 | mk (f:FuncId) (caps:FCaps)
inductive FCaps where
 | nil
 | int (k:IntKind) (n:Int) (r:FCaps)
 | fn (v:FnVal) (r:FCaps)
end
def Ty.D:Ty→Type
 | .int _=>Int
 | .bool=>Bool
 | .str=>List UInt8
 | .fn=>FnVal
 | .unit=>Unit
 | .sl t=>List t.D
 | .ptr t=>t.D
 | .arr _ t=>List t.D
 | .pair a b=>a.D × b.D
def Ty.dflt:(t:Ty)→t.D
 | .int _=>(0:Int)
 | .bool=>false
 | .str=>([]:List UInt8)
 | .fn=>FnVal.nil
 | .unit=>()
 | .sl t=>([]:List t.D)
 | .ptr t=>t.dflt
 | .arr n t=>Az n t.dflt
 | .pair a b=>(a.dflt,b.dflt)
inductive Fl where
 | sh
 | gone
 | own (e:Fl)
 | pr (a b:Fl)
 | ar (e:Fl)
 | pin (k:Nat) (f:Fl)
 deriving DecidableEq,Inhabited
def Fl.mkpr:Fl→Fl→Fl
 | .sh,.sh=>.sh
 | a,b=>.pr a b
def Fl.mkar:Fl→Fl
 | .sh=>.sh
 | e=>.ar e
def Fl.mkpin (k:Nat):Fl→Fl
 | .pin j f=>.pin j f
 | f=>.pin k f
def Fl.pins:Fl→List Nat
 | .pin k f=>k :: f.pins
 | _=>[]
def Fl.base:Fl→Fl
 | .pin _ f=>f.base
 | f=>f
def Fl.full:Ty→Fl
 | .sl t=>.own (full t)
 | .arr _ t=>.mkar (full t)
 | .pair a b=>.mkpr (full a) (full b)
 | .ptr _=>.gone
 | _=>.sh
def Fl.half:Ty→Fl
 | .sl _=>.own .sh
 | .arr _ t=>.mkar (half t)
 | .pair a b=>.mkpr (half a) (half b)
 | .ptr _=>.gone
 | _=>.sh
def Fl.nw (deep:Bool) (t:Ty):Fl:=match deep with|true=>.full t|false=>.half t
def Fl.l:Fl→Fl
 | .sh=>.sh
 | .pr a _=>a
 | .pin _ f=>f.l
 | _=>.gone
def Fl.r:Fl→Fl
 | .sh=>.sh
 | .pr _ b=>b
 | .pin _ f=>f.r
 | _=>.gone
def Fl.e:Fl→Fl
 | .sh=>.sh
 | .own e=>e
 | .pin _ f=>f.e
 | _=>.gone
def Fl.a:Fl→Fl
 | .sh=>.sh
 | .ar e=>e
 | .pin _ f=>f.a
 | _=>.gone
def Fl.whole:Fl→Bool
 | .sh=>true
 | .gone=>false
 | .own e=>e.whole
 | .pr a b=>a.whole&&b.whole
 | .ar e=>e.whole
 | .pin _ f=>f.whole
def Fl.isGone (f:Fl):Bool:=match f.base with|.gone=>true|_=>false
def Fl.ne (deep:Bool) (t:Ty):Fl:=match (Fl.nw deep t).whole with|true=>.nw deep t|false=>.sh
def Fl.free:Fl→Bool
 | .sh=>true
 | _=>false
def Fl.low:Fl→Bool
 | .sh=>true
 | .gone=>true
 | .pr a b=>a.low&&b.low
 | .ar a=>a.low
 | _=>false
def Fl.le (g f:Fl):Bool:=
 match f with
 | .sh=>g.low
 | .gone=>match g with|.gone=>true|_=>false
 | .own f=>match g with|.gone=>true|.sh=>f.whole|.own e=>le e f|_=>false
 | .pr c d=>match g with|.gone=>true|.sh=>c.whole&&d.whole|.pr a b=>le a c&&le b d|_=>false
 | .ar c=>match g with|.gone=>true|.sh=>c.whole|.ar a=>le a c|_=>false
 | .pin k f=>match g with|.pin j e=>Ag j k&&le e f|g=>le g f
inductive PS where
 | der
 | fst
 | snd
 | idx (i:Nat)
 | elm (i:Nat)
def PS.jumps:PS→Bool
 | .der=>true
 | .elm _=>true
 | _=>false
def PS.isElm:PS→Bool
 | .elm _=>true
 | _=>false
def jumps:List PS→Bool
 | []=>false
 | s :: p=>s.jumps || jumps p
def cW:List PS→Bool
 | []=>false
 | s :: p=>s.isElm || cW p
def jG:List PS→Bool
 | .der :: p=>!jumps p
 | _=>false
structure Dat where
 t:Ty
 x:t.D
 f:Fl
def oV (a b:Ty) (x:a.D):Option b.D:=if h:a=b then some (h▸x) else none
def yJ:List PS→(t:Ty)→Fl→t.D→Option Dat
 | [],t,f,x=>some ⟨t,x,f⟩
 | .fst :: p,.pair a _,f,x=>yJ p a f.l x.1
 | .snd :: p,.pair _ b,f,x=>yJ p b f.r x.2
 | .der :: p,.ptr t,f,x=>yJ p t f.e x
 | .idx i :: p,.arr _ t,f,x=>yJ p t f.a (Ak x i t.dflt)
 | .elm i :: p,.sl t,f,x=>yJ p t f.e (Ak x i t.dflt)
 | _,_,_,_=>none
def Fl.keep (p:List PS):Fl→Fl→Fl
 | .pin k _,g=>if jumps p then .mkpin k g else g
 | _,g=>g
def oE:List PS→(t:Ty)→Fl→t.D→Dat→Option (Fl × t.D)
 | [],t,_,_,d=>(oV d.t t d.x).map fun y=>(d.f,y)
 | .fst :: p,.pair a b,f,x,d=>(oE p a f.l x.1 d).map fun y=>(Fl.keep p f (.mkpr y.1 f.r),((y.2,x.2):Ty.D (.pair a b)))
 | .snd :: p,.pair a b,f,x,d=>(oE p b f.r x.2 d).map fun y=>(Fl.keep p f (.mkpr f.l y.1),((x.1,y.2):Ty.D (.pair a b)))
 | .idx i :: p,.arr n t,f,x,d=>(oE p t f.a (Ak x i t.dflt) d).bind fun y=>if f.a.whole&&y.1=f.a then some (Fl.keep p f (.mkar f.a),(AJ x i y.2:Ty.D (.arr n t))) else none
 | .der :: p,.ptr t,.own e,x,d=>(oE p t e x d).map fun y=>(.own y.1,(y.2:Ty.D (.ptr t)))
 | .der :: p,.ptr t,.pin k (.own e),x,d=>(oE p t e x d).map fun y=>(.pin k (.own y.1),(y.2:Ty.D (.ptr t)))
 | .elm i :: p,.sl t,.own e,x,d=>(oE p t e (Ak x i t.dflt) d).bind fun y=>if y.1=e then some (.own e,(AJ x i y.2:Ty.D (.sl t))) else none
 | .elm i :: p,.sl t,.pin k (.own e),x,d=>(oE p t e (Ak x i t.dflt) d).bind fun y=>if y.1=e then some (.pin k (.own e),(AJ x i y.2:Ty.D (.sl t))) else none
 | _,_,_,_,_=>none
def Fl.wrap:Fl→Fl→Fl
 | .pin k _,g=>.mkpin k g
 | _,g=>g
def AV9:List PS→(t:Ty)→Fl→t.D→Dat→Option (Fl × t.D)
 | [],t,_,_,d=>(oV d.t t d.x).map fun y=>(d.f,y)
 | .fst :: p,.pair a b,f,x,d=>(AV9 p a f.l x.1 d).map fun y=>(f.wrap (.mkpr y.1 f.r),((y.2,x.2):Ty.D (.pair a b)))
 | .snd :: p,.pair a b,f,x,d=>(AV9 p b f.r x.2 d).map fun y=>(f.wrap (.mkpr f.l y.1),((x.1,y.2):Ty.D (.pair a b)))
 | .idx i :: p,.arr n t,f,x,d=>(AV9 p t f.a (Ak x i t.dflt) d).bind fun y=>if f.a.whole&&y.1=f.a then some (f.wrap (.mkar f.a),(AJ x i y.2:Ty.D (.arr n t))) else none
 | .der :: p,.ptr t,.own e,x,d=>(AV9 p t e x d).map fun y=>(.own y.1,(y.2:Ty.D (.ptr t)))
 | .der :: p,.ptr t,.pin k (.own e),x,d=>(AV9 p t e x d).map fun y=>(.pin k (.own y.1),(y.2:Ty.D (.ptr t)))
 | .elm i :: p,.sl t,.own e,x,d=>(AV9 p t e (Ak x i t.dflt) d).bind fun y=>if y.1=e then some (.own e,(AJ x i y.2:Ty.D (.sl t))) else none
 | .elm i :: p,.sl t,.pin k (.own e),x,d=>(AV9 p t e (Ak x i t.dflt) d).bind fun y=>if y.1=e then some (.pin k (.own e),(AJ x i y.2:Ty.D (.sl t))) else none
 | _,_,_,_,_=>none
def A0x (f g:Fl):Fl:=match f.base with|.sh=>.sh|_=>.own g
def kD:List PS→Fl→Fl→Fl
 | [],_,g=>g
 | .fst :: p,f,g=>f.wrap (.mkpr (kD p f.l g) f.r)
 | .snd :: p,f,g=>f.wrap (.mkpr f.l (kD p f.r g))
 | .idx _ :: p,f,g=>f.wrap (.mkar (kD p f.a g))
 | .der :: p,f,g=>f.wrap (A0x f (kD p f.e g))
 | .elm _ :: p,f,g=>f.wrap (A0x f (kD p f.e g))
inductive SV where
 | dead
 | dat (d:Dat)
 | tup (d:Dat)
 | adr (r:Nat) (p:List PS) (c s:Nat)
 | als (r:Nat) (p:List PS) (c s:Nat)
 | pend (r:Nat) (p:List PS) (c s u:Nat) (d:Dat)
 | clo (g:FuncId) (rs:List (Nat × Nat))
 | nils
 | und
 | unk
structure Slot where
 sv:SV
 c:Nat
 s:Nat
 u:Nat
def Slot.dead:Slot:=⟨.dead,0,0,0⟩
end Go.Rf

end
section
namespace Go.Rf
def Ty.beq (a b:Ty):Bool:=decide (a=b)
def qU (ty:TypeId→Option Ty):List Field→Nat→Option Ty
 | [],_=>some .unit
 | f :: fs,off=>
  match ty f.type with
  | some a=>if Ag f.offset off then (qU ty fs (off+a.size)).map (.pair a) else none
  | none=>none
def A7Z:Ty→Value→Bool
 | .int k,.int j n=>decide (k=j)&&decide (n=0)
 | .bool,.bool b=>!b
 | .str,.string s=>s.data.toList.isEmpty
 | .fn,.nilFunc=>true
 | .sl _,.slice none 0 0=>true
 | .ptr _,_=>true
 | _,_=>false
def qR:Ty→List Value→Bool
 | .unit,c=>c.isEmpty
 | .pair a b,c=>qR a (c.take a.size)&&qR b (c.drop a.size)
 | .arr n t,c=>zarr t.size (qR t) n c
 | t,[v]=>A7Z t v
 | _,_=>false
where
 zarr (k:Nat) (z:List Value→Bool):Nat→List Value→Bool
  | 0,c=>c.isEmpty
  | n+1,c=>z (c.take k)&&zarr k z n (c.drop k)
def tyN (P:Program):Nat→TypeId→Option Ty
 | 0,_=>none
 | d+1,t=>
  match P.info? t,P.underlying t with
  | some i,some u=>
   let τ:Option Ty:=match u with
    | .int k=>some (.int k)
    | .bool=>some .bool
    | .string=>some .str
    | .func _ _ _=>some .fn
    | .slice e=>(tyN P d e).map .sl
    | .pointer e=>(tyN P d e).map .ptr
    | .array n e=>(tyN P d e).map (.arr n)
    | .struct fs=>qU (tyN P d) fs.toList 0
    | _=>none
   match τ with
   | some τ=>if Ag i.size τ.size then some τ else none
   | none=>none
  | _,_=>none
inductive Mode where
 | ro (t:Ty)
 | mv (t:Ty) (f:Fl)
 | io (t:Ty) (fin fout:Fl) (slot:Nat) (path:List PS)
structure FCfg where
 modes:List Mode
 nres:Nat
 rt:Ty
 rf:Fl
 keep:List Nat
 mv:List (Nat × Nat)
structure Env where
 P:Program
 cfg:FuncId→FCfg
def Env.ty (E:Env) (t:TypeId):Option Ty:=tyN E.P 8 t
def Env.zok (E:Env) (t:TypeId) (τ:Ty):Bool:=
 match E.P.info? t with
 | some i=>match i.zero with
  | some v=>qR τ v.cells.toList
  | none=>false
 | none=>false
def Env.small (E:Env) (t:TypeId):Bool:=
 match E.P.info? t with
 | some i=>AI i.bytes 128
 | none=>false
def Env.tz (E:Env) (t:TypeId):Option Ty:=
 match E.ty t with
 | some τ=>if E.zok t τ then some τ else none
 | none=>none
def Env.sl (E:Env) (t:TypeId):Option Ty:=
 match E.ty t,E.P.underlying t with
 | some (.sl τ),some (.slice e)=>if E.zok e τ&&E.small e then some (.sl τ) else none
 | _,_=>none
structure Dyn where
 t:Ty
 x:t.D
inductive Up where
 | put (s:Nat) (v:SV)
 | mod (s:Nat) (v:SV)
 | pub (s:Nat) (v:SV)
def Up.slot:Up→Nat
 | .put s _=>s
 | .mod s _=>s
 | .pub s _=>s
def Up.on:Up→Slot→Slot
 | .put _ v,⟨_,c,s,u⟩=>⟨v,c+1,s+1,u+1⟩
 | .mod _ v,⟨_,c,s,u⟩=>⟨v,c+1,s,u+1⟩
 | .pub _ v,⟨_,c,s,u⟩=>⟨v,c,s,u+1⟩
abbrev zW:=Nat→Slot
def zW.up (g:zW) (u:Up):zW:=fun i=>if Ag i u.slot then u.on (g i) else g i
def zW.ups (g:zW):List Up→zW
 | []=>g
 | u :: us=>(g.up u).ups us
def okA (g:zW) (r c s:Nat):Bool:=Ag (g r).c c&&Ag (g r).s s
def okU (g:zW) (r c s u:Nat):Bool:=okA g r c s&&Ag (g r).u u
def okB (g:zW) (r:Nat) (p:List PS) (c s:Nat):Bool:=Ag (g r).s s&&(jG p || Ag (g r).c c)
def sv (g:zW):Operand→SV
 | .tmp s=>(g s).sv
 | .const (.int k n)=>.dat ⟨.int k,n,.sh⟩
 | .const (.bool b)=>.dat ⟨.bool,b,.sh⟩
 | .const (.string s)=>.dat ⟨.str,s.data.toList,.sh⟩
 | .const (.slice none 0 0)=>.nils
 | .const .nilFunc=>.dat ⟨.fn,.nil,.sh⟩
 | .func f=>.dat ⟨.fn,.mk f .nil,.sh⟩
 | _=>.dead
abbrev Pl:=Nat × List PS
def atP (g:zW) (r:Nat) (p:List PS):Option Dat:=
 match (g r).sv with
 | .dat d=>yJ p d.t d.f d.x
 | _=>none
def eJ (g:zW):List (Nat × Nat)→Option FCaps
 | []=>some .nil
 | (r,s) :: rs=>
  match (g r).sv with
  | .dat ⟨.ptr (.int k),n,f⟩=>if Ag (g r).s s&&f.whole then (eJ g rs).map (.int k n) else none
  | .dat ⟨.ptr .fn,v,f⟩=>if Ag (g r).s s&&f.whole then (eJ g rs).map (.fn v) else none
  | _=>none
def yK (g:zW):SV→Option Dat
 | .dat d=>if d.f.whole then some d else none
 | .als r p c s=>if okA g r c s then (match atP g r p with|some d=>if d.f.whole then some d else none|none=>none) else none
 | .pend r _ c s u d=>if okU g r c s u&&d.f.whole then (match (g r).sv with|.dat _=>some d|_=>none) else none
 | .clo h rs=>(eJ g rs).map fun cs=>⟨.fn,.mk h cs,.sh⟩
 | _=>none
def iU (g:zW) (x:Operand):SV→Option Pl
 | .dat _=>match x with|.tmp s=>some (s,[])| _=>none
 | .als r p c s=>if okA g r c s then some (r,p) else none
 | _=>none
def hP (g:zW) (x:Operand):SV→Option Pl
 | .adr r p c s=>if okB g r p c s then some (r,p) else none
 | .dat ⟨.ptr _,_,f⟩=>if f.isGone then none else match x with|.tmp s=>some (s,[.der])| _=>none
 | .als r p c s=>if okA g r c s then (match atP g r p with|some ⟨.ptr _,_,f⟩=>if f.e.isGone then none else some (r,p++[.der])| _=>none) else none
 | _=>none
def take (g:zW) (mv:Bool) (t:Option Ty) (x:Operand):SV→Option (Dat × List Up)
 | .nils=>match t with|some (.sl t)=>some (⟨.sl t,([]:List t.D),.own (.ne mv t)⟩,[])| _=>none
 | .dat d=>if d.f.free then some (d,[]) else if d.f.whole then (match x with|.tmp s=>some (d,[.put s .dead])| _=>none) else none
 | .als r p c s=>
  if okA g r c s then
   match (g r).sv with
   | .dat e=>
    match yJ p e.t e.f e.x with
    | some d=>
     if d.f.free then some (d,[])
     else if d.f.whole then
      if mv&&!cW p then some (d,[.mod r (.dat ⟨e.t,e.x,kD p e.f .gone⟩)])
      else some (⟨d.t,d.x,.sh⟩,[.pub r (.dat ⟨e.t,e.x,kD p e.f .sh⟩)])
     else none
    | none=>none
   | _=>none
  else none
 | .pend r p c s u d=>
  match x with
  | .tmp j=>if okU g r c s u&&!cW p&&d.f.whole&&!Nat.beq j r then (match (g r).sv with|.dat e=>some (d,[.mod r (.dat ⟨e.t,e.x,kD p e.f .gone⟩),.put j .dead])| _=>none) else none
  | _=>none
 | .clo h []=>some (⟨.fn,.mk h .nil,.sh⟩,[])
 | _=>none
def PS.eqc:PS→PS→Option (List Bool)
 | .der,.der=>some []
 | .fst,.fst=>some []
 | .snd,.snd=>some []
 | .idx i,.idx j=>some [decide (i=j)]
 | .elm i,.elm j=>some [decide (i=j)]
 | _,_=>none
def Ah8:List PS→List PS→Option (List Bool)
 | [],[]=>some []
 | a :: p,b :: q=>match PS.eqc a b,Ah8 p q with|some l,some m=>some (l++m)| _,_=>none
 | _,_=>none
def A1W {ρ:Type}:List Bool→Option ρ→Option ρ
 | [],k=>k
 | b :: l,k=>cond b (A1W l k) none
end Go.Rf

end
section
namespace Go.Rf
variable {ρ:Type}
def zX (n:Nat):Bool:=AI n 1099511627776
def yU (op:BinOp) (k:IntKind) (a b:Int):Int:=
 match op with
 | .and=>k.wrap (A0 k.bits a &&& A0 k.bits b).toNat
 | .or=>k.wrap (A0 k.bits a ||| A0 k.bits b).toNat
 | .xor=>k.wrap (A0 k.bits a ^^^ A0 k.bits b).toNat
 | _=>k.wrap (A0 k.bits a &&& ~~~(A0 k.bits b)).toNat
def eqI (a b:Int):Bool:=decide (a=b)
def eqB (a b:Bool):Bool:=decide (a=b)
def eqS (a b:List UInt8):Bool:=decide (a=b)
def BE9 (k:IntKind) (a:Int):Int:=k.wrap (0 - a)
def leI (a b:Int):Bool:=decide (a≤b)
def zA (i:Int):Bool:=decide (0≤i)
def As8 (a b:Int):Int:=cond (decide (b < a)) b a
def BG4 (op:BinOp) (k:IntKind) (a:Int) (k':IntKind) (b:Int) (κ:Dat→Option ρ):Option ρ:=
 match op with
 | .shl=>cond (decide (b < 0)) none (κ ⟨.int k,k.wrap (a * 2 ^ min b.toNat k.bits),.sh⟩)
 | .shr=>cond (decide (b < 0)) none (κ ⟨.int k,a.fdiv (2 ^ min b.toNat k.bits),.sh⟩)
 | op=>if k=k' then
   match op with
   | .add=>κ ⟨.int k,k.wrap (a+b),.sh⟩
   | .sub=>κ ⟨.int k,k.wrap (a - b),.sh⟩
   | .mul=>κ ⟨.int k,k.wrap (a * b),.sh⟩
   | .quo=>cond (eqI b 0) none (κ ⟨.int k,k.wrap (a.tdiv b),.sh⟩)
   | .rem=>cond (eqI b 0) none (κ ⟨.int k,a.tmod b,.sh⟩)
   | .and=>κ ⟨.int k,yU .and k a b,.sh⟩
   | .or=>κ ⟨.int k,yU .or k a b,.sh⟩
   | .xor=>κ ⟨.int k,yU .xor k a b,.sh⟩
   | .andNot=>κ ⟨.int k,yU .andNot k a b,.sh⟩
   | .eql=>κ ⟨.bool,eqI a b,.sh⟩
   | .neq=>κ ⟨.bool,!eqI a b,.sh⟩
   | .lss=>κ ⟨.bool,decide (a < b),.sh⟩
   | .leq=>κ ⟨.bool,decide (a≤b),.sh⟩
   | .gtr=>κ ⟨.bool,decide (b < a),.sh⟩
   | .geq=>κ ⟨.bool,decide (b≤a),.sh⟩
   | _=>none
  else none
def BN5 (op:BinOp) (a b:List UInt8) (κ:Dat→Option ρ):Option ρ:=
 match op with
 | .add=>cond (zX (a.length+b.length)) (κ ⟨.str,(a++b:List UInt8),.sh⟩) none
 | .eql=>κ ⟨.bool,eqS a b,.sh⟩
 | .neq=>κ ⟨.bool,!eqS a b,.sh⟩
 | _=>none
def BG0 (op:BinOp) (t:Option Ty) (x y:SV) (κ:Dat→Option ρ):Option ρ:=
 match x,y with
 | .dat ⟨.int k,a,.sh⟩,.dat ⟨.int k',b,.sh⟩=>BG4 op k a k' b κ
 | .dat ⟨.str,a,.sh⟩,.dat ⟨.str,b,.sh⟩=>BN5 op a b κ
 | .dat ⟨.bool,a,.sh⟩,.dat ⟨.bool,b,.sh⟩=>if t=some .bool then (match op with|.eql=>κ ⟨.bool,eqB a b,.sh⟩| .neq=>κ ⟨.bool,!eqB a b,.sh⟩| _=>none) else none
 | _,_=>none
def eqD:(t:Ty)→t.D→t.D→Bool
 | .int _,x,y=>eqI x y
 | .bool,x,y=>eqB x y
 | .str,x,y=>eqS x y
 | .pair a b,x,y=>eqD a x.1 y.1&&eqD b x.2 y.2
 | _,_,_=>true
def A9x (P:Program):Nat→TypeId→Bool
 | 0,_=>false
 | d+1,t=>match P.underlying t with
  | some (.int _)=>true
  | some .bool=>true
  | some .string=>true
  | some (.struct fs)=>!P.stoodInHeld t&&fs.toList.all fun f=>f.name != "_" && A9x P d f.type
  | _=>false
def BG3 (E:Env) (op:BinOp) (t:TypeId) (x y:SV) (κ:Dat→Option ρ):Option ρ:=
 match x,y with
 | .dat ⟨.pair a b,p,.sh⟩,.dat ⟨.pair a' b',q,.sh⟩=>
  match oV (.pair a' b') (.pair a b) q with
  | some q=>if E.ty t=some (.pair a b)∧A9x E.P 8 t=true∧E.P.eqGuardType E.P.depth t=false then
    (match op with|.eql=>κ ⟨.bool,eqD (.pair a b) p q,.sh⟩| .neq=>κ ⟨.bool,!eqD (.pair a b) p q,.sh⟩| _=>none) else none
  | none=>none
 | x,y=>BG0 op (E.ty t) x y κ
def unK (op:UnOp) (x:SV) (κ:Dat→Option ρ):Option ρ:=
 match op,x with
 | .neg,.dat ⟨.int k,a,.sh⟩=>κ ⟨.int k,BE9 k a,.sh⟩
 | .xor,.dat ⟨.int k,a,.sh⟩=>κ ⟨.int k,yU .xor k (if k.signed then -1 else k.max) a,.sh⟩
 | .not,.dat ⟨.bool,a,.sh⟩=>κ ⟨.bool,!a,.sh⟩
 | _,_=>none
def Af8 (src dst:Option Ty) (d:Option Dat) (κ:Dat→Option ρ):Option ρ:=
 match src,dst,d with
 | some (.int _),some (.int k),some ⟨.int _,n,_⟩=>κ ⟨.int k,k.wrap n,.sh⟩
 | some .str,some .str,some ⟨.str,s,_⟩=>κ ⟨.str,s,.sh⟩
 | some (.sl (.int .u8)),some .str,some ⟨.sl (.int .u8),s,f⟩=>if f.whole then κ ⟨.str,Bl (fun n:Int=>UInt8.ofNat n.toNat) s,.sh⟩ else none
 | some .str,some (.sl (.int .u8)),some ⟨.str,s,_⟩=>κ ⟨.sl (.int .u8),Bl (fun b:UInt8=>(b.toNat:Int)) s,.own .sh⟩
 | _,_,_=>none
def zG:Nat→List PS
 | 0=>[.fst]
 | n+1=>.snd :: zG n
def A0M (g:zW) (q:Pl):Option Ty:=(atP g q.1 q.2).map (·.t)
def A3o (g:zW) (q:Pl):SV:=.adr q.1 q.2 (g q.1).c (g q.1).s
def AM1 (g:zW) (q:Pl):SV:=.als q.1 q.2 (g q.1).c (g q.1).s
def rW (o:Oper) (us:List Up) (v:SV) (κ:List Up→Option ρ):Option ρ:=
 match o.dst with
 | some d=>κ (us++[.put d v])
 | none=>none
def A8J:SV→Bool
 | .dat _=>true
 | _=>false
def Ak7:SV→Option Ty
 | .dat ⟨.ptr t,_,.own _⟩=>some t
 | _=>none
def AH1 (g:zW) (mv:Bool) (x:Operand):Option Nat:=
 match x with
 | .tmp s=>if mv&&(Ak7 (g s).sv).isSome then some s else none
 | _=>none
def A2T (g:zW) (mv:Bool) (o:Oper) (t:Option Ty) (x:Operand) (κ:List Up→Option ρ):Option ρ:=
 match AH1 g mv x with
 | some s=>rW o [] (.adr s [.der] 0 (g s).s) κ
 | none=>
 match sv g x with
 | .dat d=>if d.f.free then rW o [] (.dat d) κ else if d.f.isGone then none else match x with|.tmp s=>rW o [] (AM1 g (s,[])) κ|_=>none
 | .als r p c s=>rW o [] (.als r p c s) κ
 | .adr r p c s=>rW o [] (.adr r p c s) κ
 | .clo h rs=>rW o [] (.clo h rs) κ
 | .pend r p c s u d=>match x,o.dst with|.tmp j,some e=>if Ag j e then none else κ [.put j .dead,.put e (.pend r p c s u d)]| _,_=>none
 | .nils=>match t with|some (.sl t)=>rW o [] (.dat ⟨.sl t,([]:List t.D),.own (.ne mv t)⟩) κ|_=>none
 | .tup d=>match x,o.dst with|.tmp j,some e=>if Ag j e then none else κ [.put j .dead,.put e (.tup d)]| _,_=>none
 | _=>none
def BF9 (g:zW) (o:Oper) (x:Operand) (κ:List Up→Option ρ):Option ρ:=
 match sv g x with
 | .adr r p c s=>if okB g r p c s&&A8J (g r).sv then rW o [] (.adr r p c s) κ else none
 | .als r p c s=>if okA g r c s then (match atP g r p with|some ⟨.ptr _,_,_⟩=>rW o [] (.als r p c s) κ|_=>none) else none
 | .dat ⟨.ptr t,y,f⟩=>if f.free then rW o [] (.dat ⟨.ptr t,y,f⟩) κ else if f.isGone then none else match x with|.tmp s=>rW o [] (AM1 g (s,[])) κ|_=>none
 | _=>none
def BH3:Operand→Bool
 | .const (.pointer none)=>true
 | _=>false
def AO1 (g:zW) (mv:Bool) (o:Oper) (t:Option Ty) (x:Operand) (κ:List Up→Option ρ):Option ρ:=
 if BH3 x then rW o [] .dead κ else
 match sv g x with
 | .adr r p c s=>rW o [] (.adr r p c s) κ
 | .clo h rs=>rW o [] (.clo h rs) κ
 | .pend r p c s u d=>
  match x,o.dst with
  | .tmp j,some e=>if Ag r e&&p.isEmpty&&okU g r c s u&&A8J (g r).sv&&!Nat.beq j e then κ [.put j .dead,.put e (.dat d)] else
    match take g mv t x (.pend r p c s u d) with
    | some (d,us)=>κ (us++[.put e (.dat d)])
    | none=>none
  | _,_=>none
 | v=>match take g mv t x v with
  | some (d,us)=>rW o us (.dat d) κ
  | none=>none
def A4P (g:zW) (o:Oper) (t:Option Ty) (x:Operand) (κ:List Up→Option ρ):Option ρ:=
 match hP g x (sv g x) with
 | some q=>
  match atP g q.1 q.2 with
  | some d=>if t=some d.t&&!d.f.isGone then (if d.f.free then rW o [] (.dat d) κ else rW o [] (AM1 g q) κ) else none
  | none=>none
 | none=>none
def A3d (g:zW) (q:Pl) (d:Dat):Option Up:=
 match (g q.1).sv with
 | .dat r=>
  match oE q.2 r.t r.f r.x d with
  | some y=>some (.mod q.1 (.dat ⟨r.t,y.2,y.1⟩))
  | none=>if d.f.whole then (oE q.2 r.t r.f r.x ⟨d.t,d.x,.sh⟩).map fun y=>.mod q.1 (.dat ⟨r.t,y.2,y.1⟩) else none
 | _=>none
def Ah1 (g:zW) (mv:Bool) (o:Oper) (t:Option Ty) (x y:Operand) (κ:List Up→Option ρ):Option ρ:=
 match o.dst,hP g x (sv g x) with
 | none,some q=>
  if A0M g q=t&&t.isSome then
   match y,sv g y with
   | .tmp j,.pend r p c s u d=>
    match (if Ag r q.1&&okU g r c s u&&d.f.whole&&!Nat.beq j q.1 then Ah8 p q.2 else none) with
    | some cs=>match A3d g q d with
     | some u=>A1W cs (κ [.put j .dead,u])
     | none=>none
    | none=>match take g mv t y (.pend r p c s u d) with
     | some (d,us)=>match A3d (g.ups us) q d with
      | some u=>κ (us++[u])
      | none=>none
     | none=>none
   | y,v=>match take g mv t y v with
    | some (d,us)=>match A3d (g.ups us) q d with
     | some u=>κ (us++[u])
     | none=>none
    | none=>none
  else none
 | _,_=>none
def iJ (g:zW) (o:Oper) (t:Option Ty) (x:Operand) (i:Nat) (κ:List Up→Option ρ):Option ρ:=
 match hP g x (sv g x) with
 | some q=>if A0M g q=t then
   match atP g q.1 (q.2++zG i) with
   | some d=>if (jG q.2 || !d.f.isGone)&&!Nat.beq d.t.size 0 then rW o [] (A3o g (q.1,q.2++zG i)) κ else none
   | none=>none else none
 | none=>none
def iA (g:zW) (o:Oper) (t:Option Ty) (x i:Operand) (κ:List Up→Option ρ):Option ρ:=
 match t,sv g i with
 | some (.sl τ),.dat ⟨.int _,i,.sh⟩=>
  match iU g x (sv g x) with
  | some q=>
   match atP g q.1 q.2 with
   | some ⟨.sl τ',xs,f⟩=>if τ'=τ&&f.e.whole&&!f.isGone then
     cond (zA i) (cond (AE i.toNat (Ac xs)) (rW o [] (A3o g (q.1,q.2++[.elm i.toNat])) κ) none) none else none
   | _=>none
  | none=>none
 | some (.arr n τ),.dat ⟨.int _,i,.sh⟩=>
  match hP g x (sv g x) with
  | some q=>
   match atP g q.1 q.2 with
   | some ⟨.arr n' τ',_,f⟩=>if n'=n&&τ'=τ&&(jG q.2 || !f.a.isGone) then cond (zA i) (cond (AE i.toNat n) (rW o [] (A3o g (q.1,q.2++[.idx i.toNat])) κ) none) none else none
   | _=>none
  | none=>none
 | _,_=>none
def Ak6 (g:zW) (o:Oper) (t:Option Ty) (x i:Operand) (κ:List Up→Option ρ):Option ρ:=
 match t,sv g x,sv g i with
 | some .str,.dat ⟨.str,s,.sh⟩,.dat ⟨.int _,i,.sh⟩=>
  cond (zA i) (cond (AE i.toNat (Ac s)) (rW o [] (.dat ⟨.int .u8,(UInt8.toNat (Ak s i.toNat 0):Int),.sh⟩) κ) none) none
 | some (.arr n τ),.dat ⟨.arr m τ',xs,.sh⟩,.dat ⟨.int _,i,.sh⟩=>
  if n=m&&τ'=τ then cond (zA i) (cond (AE i.toNat n) (rW o [] (.dat ⟨τ',Ak xs i.toNat τ'.dflt,.sh⟩) κ) none) none else none
 | _,_,_=>none
def AH9 (mv:Bool):(t:Ty)→(i:Nat)→(Nat→Option Dat)→Option (t.D × Fl)
 | .unit,_,_=>some ((),.sh)
 | .pair a b,i,h=>
  match AH9 mv b (i+1) h with
  | some (y,g)=>match h i with
   | some d=>(oV d.t a d.x).map fun x=>((x,y),.mkpr d.f g)
   | none=>some ((a.dflt,y),.mkpr (.nw mv a) g)
  | none=>none
 | _,_,_=>none
def A2U (t:Ty) (h:Nat→Option Dat):Nat→Nat→Option (List t.D)
 | _,0=>some []
 | i,n+1=>
  match A2U t h (i+1) n with
  | some l=>match h i with
   | some d=>(oV d.t t d.x).map (· :: l)
   | none=>some (t.dflt :: l)
  | none=>none
def mD (g:zW) (mv:Bool) (ts:Nat→Option Ty):List (Nat × Operand)→Option (List (Nat × Dat) × List Up)
 | []=>some ([],[])
 | (i,x) :: l=>
  match take g mv (ts i) x (sv g x) with
  | some (d,us)=>(mD (g.ups us) mv ts l).map fun r=>((i,d) :: r.1,us++r.2)
  | none=>none
def kE (l:List (Nat × Dat)) (i:Nat):Option Dat:=(l.find? fun x=>Ag x.1 i).map (·.2)
def oH:List Nat→Bool
 | []=>true
 | a :: l=>!l.any (Ag a ·)&&oH l
def hU:Ty→Nat→Option Ty
 | .pair a _,0=>some a
 | .pair _ b,i+1=>hU b i
 | _,_=>none
def A0Q (mv:Bool) (n:Nat) (t:Ty) (l:List (Nat × Dat)):Option Fl:=
 match l with
 | [(_,d)]=>if Ag n 1 then some d.f else if d.f=.nw mv t then some d.f else if Fl.le .sh d.f&&Fl.le .sh (.nw mv t) then some .sh else none
 | l=>if l.all (fun x=>decide (x.2.f=.nw mv t)) then some (.nw mv t) else if Fl.le .sh (.nw mv t)&&l.all (fun x=>Fl.le .sh x.2.f) then some .sh else none
def Ai5 (E:Env) (g:zW) (mv:Bool) (o:Oper) (t:TypeId) (ps:Array (Nat × Operand)) (κ:List Up→Option ρ):Option ρ:=
 match E.tz t with
 | some (.arr n τ)=>
  match mD g mv (fun _=>some τ) ps.toList with
  | some (l,us)=>if oH (l.map (·.1))&&l.all (fun x=>AE x.1 n) then
    match A2U τ (kE l) 0 n,A0Q mv n τ l with
    | some xs,some f=>rW o us (.dat ⟨.arr n τ,(xs:List τ.D),.mkar f⟩) κ
    | _,_=>none else none
  | none=>none
 | some τ=>
  match mD g mv (hU τ) ps.toList with
  | some (l,us)=>if oH (l.map (·.1))&&l.all (fun x=>(hU τ x.1).isSome) then
    match AH9 mv τ 0 (kE l) with
    | some (x,f)=>rW o us (.dat ⟨τ,x,f⟩) κ
    | none=>none else none
  | none=>none
 | none=>none
def mZ (E:Env) (g:zW) (mv:Bool) (o:Oper) (t:TypeId) (n:Nat) (ps:Array (Nat × Operand)) (κ:List Up→Option ρ):Option ρ:=
 match E.sl t with
 | some (.sl τ)=>
  match mD g mv (fun _=>some τ) ps.toList with
  | some (l,us)=>if oH (l.map (·.1))&&l.all (fun x=>AE x.1 n)&&AI (n * τ.size) 16777216 then
    match A2U τ (kE l) 0 n,A0Q mv n τ l with
    | some xs,some f=>rW o us (.dat ⟨.sl τ,(xs:List τ.D),.own f⟩) κ
    | _,_=>none else none
  | none=>none
 | _=>none
def AM5 (x:Option SV) (d:Nat) (κ:Nat→Option ρ):Option ρ:=
 match x with
 | none=>κ d
 | some (.dat ⟨.int _,i,.sh⟩)=>cond (zA i) (κ i.toNat) none
 | _=>none
def publish (g:zW) (x:Operand) (v:SV):Option (List Up):=
 match v with
 | .dat d=>if d.f.free then some [] else if d.f.whole then (match x with|.tmp s=>some [.pub s (.dat ⟨d.t,d.x,.sh⟩)]| _=>none) else none
 | .als r p c s=>if okA g r c s then
   match (g r).sv with
   | .dat e=>match yJ p e.t e.f e.x with
    | some d=>if d.f.free then some [] else if d.f.whole then some [.pub r (.dat ⟨e.t,e.x,kD p e.f .sh⟩)] else none
    | none=>none
   | _=>none else none
 | .clo _ []=>some []
 | _=>none
def Al7 (g:zW) (o:Oper) (t:Option Ty) (x:Operand) (lo hi:Option Operand) (κ:List Up→Option ρ):Option ρ:=
 match t,yK g (sv g x) with
 | some .str,some ⟨.str,s,_⟩=>
  AM5 (hi.map (sv g)) (Ac s) fun h=>AM5 (lo.map (sv g)) 0 fun l=>
   cond (AI h (Ac s)) (cond (AI l h) (rW o [] (.dat ⟨.str,Bq l (List.take h s),.sh⟩) κ) none) none
 | some (.sl τ),some ⟨.sl τ',s,_⟩=>
  if τ=τ' then
   match publish g x (sv g x) with
   | some us=>AM5 (hi.map (sv g)) (Ac s) fun h=>AM5 (lo.map (sv g)) 0 fun l=>
     cond (AI h (Ac s)) (cond (AI l h) (rW o us (.dat ⟨.sl τ',Bq l (List.take h s),.sh⟩) κ) none) none
   | none=>none
  else none
 | _,_=>none
def iH (E:Env) (g:zW) (mv:Bool) (o:Oper) (t:TypeId) (len cap:Operand) (κ:List Up→Option ρ):Option ρ:=
 match E.sl t,sv g len,sv g cap with
 | some (.sl τ),.dat ⟨.int .i64,n,.sh⟩,.dat ⟨.int .i64,m,.sh⟩=>
  cond (zA n) (cond (leI n m) (cond (zX m.toNat) (rW o [] (.dat ⟨.sl τ,Az n.toNat τ.dflt,.own (.nw mv τ)⟩) κ) none) none) none
 | _,_,_=>none
def Av3 (g:zW) (τ:Ty) (t:Option Ty) (x:Operand):Option (List τ.D × List Up):=
 match t with
 | some (.int .i64)=>
  match sv g x with
  | .dat ⟨.int .i64,n,.sh⟩=>if (Fl.half τ).whole then cond (zA n&&zX n.toNat) (some (Az n.toNat τ.dflt,[])) none else none
  | _=>none
 | some (.sl τ')=>
  match sv g x with
  | .nils=>if τ'=τ then some ([],[]) else none
  | v=>match yK g v with
   | some ⟨.sl τ'',ys,_⟩=>(oV (.sl τ'') (.sl τ) ys).bind fun ys=>(publish g x v).map fun us=>(ys,us)
   | _=>none
 | some .str=>
  match sv g x with
  | .dat ⟨.str,s,.sh⟩=>(oV (.sl (.int .u8)) (.sl τ) (Bl (fun b:UInt8=>(b.toNat:Int)) s)).map fun ys=>(ys,[])
  | _=>none
 | _=>none
def BE1 (g:zW) (t:Option Ty) (x:Operand):Bool:=
 match t with
 | some (.int .i64)=>
  match sv g x with
  | .dat ⟨.int .i64,n,.sh⟩=>zA n
  | _=>true
 | _=>true
def BC8 (g:zW) (t:Option Ty) (x:Operand):Bool:=
 match t with
 | some (.int .i64)=>
  match sv g x with
  | .dat ⟨.int .i64,n,.sh⟩=>zX n.toNat
  | _=>true
 | _=>true
def BC7 (g:zW) (τ:Ty) (t:Option Ty) (x:Operand):Option (List τ.D × List Up):=
 match t with
 | some (.int .i64)=>
  match sv g x with
  | .dat ⟨.int .i64,n,.sh⟩=>if (Fl.half τ).whole then some (Az n.toNat τ.dflt,[]) else none
  | _=>none
 | t=>Av3 g τ t x
theorem A6K {g:zW} {τ:Ty} {t:Option Ty} {x:Operand} {r:List τ.D × List Up} (hc:BE1 g t x=true) (hd:BC8 g t x=true) (hu:BC7 g τ t x=some r):Av3 g τ t x=some r:=by
 unfold BE1 at hc
 unfold BC8 at hd
 unfold BC7 at hu
 split at hu
 ·unfold Av3
  simp only at hc hd ⊢
  split at hu
  ·rename_i n hn
   rw[hn] at hc hd
   split at hu
   ·rename_i hw
    rw[Ar hw]
    have hc:(zA n&&zX n.toNat)=true:=by rw[show zA n=true from hc,show zX n.toNat=true from hd];rfl
    exact (Am (fun b=>cond b (some (Az (Int.toNat n) τ.dflt,([]:List Up))) none) hc).trans hu
   ·cases hu
  ·cases hu
 ·exact hu
def A20 (g:zW) (τ:Ty) (x:Operand):Option (List τ.D × List Up × Option (Nat × List PS × Nat × Nat × Nat)):=
 match sv g x with
 | .nils=>some ([],[],none)
 | .pend r p c s u d=>match take g true none x (.pend r p c s u d) with
  | some (⟨.sl τ',xs,.own .sh⟩,vs)=>(oV (.sl τ') (.sl τ) xs).map fun xs=>(xs,vs,none)
  | _=>none
 | v=>match iU g x v with
  | some q=>match atP g q.1 q.2 with
   | some ⟨.sl τ',xs,.own .sh⟩=>(oV (.sl τ') (.sl τ) xs).map fun xs=>(xs,[.pub q.1 (g q.1).sv],some (q.1,q.2,(g q.1).c,(g q.1).s,(g q.1).u+1))
   | _=>none
  | none=>none
def Ao6 (g:zW) (τ:Ty) (t':Option Ty) (x y:Operand):Option ((List τ.D × List τ.D) × Fl × List Up):=
 match t' with
 | some (.sl _)=>
  match mD g true (fun _=>none) [(0,x),(1,y)] with
  | some ([(_,⟨.sl τ1,xs,.own e⟩),(_,⟨.sl τ2,ys,.own e'⟩)],us)=>
   if e=e'&&!decide (e=.sh) then (oV (.sl τ1) (.sl τ) xs).bind fun xs=>(oV (.sl τ2) (.sl τ) ys).map fun ys=>((xs,ys),e,us) else none
  | _=>none
 | _=>none
def AN9 (g : zW) (o : Oper) (t t' : Option Ty) (x y : Operand) (κ : List Up → Option ρ) : Option ρ :=
  match t with
  | some (.sl τ) =>
    match Ao6 g τ t' x y with
    | some ((xs, ys), e, us) => cond (zX (xs.length + ys.length)) (rW o us (.dat ⟨.sl τ, (xs ++ ys : List τ.D), .own e⟩) κ) none
    | none =>
    cond (BE1 g t' y) (cond (BC8 g t' y)
     (match BC7 g τ t' y with
    | some (ys, us) =>
      match A20 (g.ups us) τ x with
      | some (xs, vs, q) =>
        cond (zX (xs.length + ys.length))
          (match q with
            | some (r, p, c, s, u) => rW o (us ++ vs) (.pend r p c s u ⟨.sl τ, (xs ++ ys : List τ.D), .own .sh⟩) κ
            | none => rW o (us ++ vs) (.dat ⟨.sl τ, (xs ++ ys : List τ.D), .own .sh⟩) κ) none
      | none => none
    | none => none) none) none
  | _ => none
def BG7 (g:zW) (o:Oper) (t:Option Ty) (x:Operand) (κ:List Up→Option ρ):Option ρ:=
 match t,yK g (sv g x) with
 | some .str,some ⟨.str,s,_⟩=>rW o [] (.dat ⟨.int .i64,(Ac s:Int),.sh⟩) κ
 | some (.sl _),some ⟨.sl _,s,_⟩=>rW o [] (.dat ⟨.int .i64,(Ac s:Int),.sh⟩) κ
 | some (.arr n _),_=>rW o [] (.dat ⟨.int .i64,(n:Int),.sh⟩) κ
 | some (.ptr (.arr n _)),_=>rW o [] (.dat ⟨.int .i64,(n:Int),.sh⟩) κ
 | _,_=>match t,sv g x with
  | some (.sl _),.nils=>rW o [] (.dat ⟨.int .i64,(0:Int),.sh⟩) κ
  | _,_=>none
def BG2 (g:zW) (o:Oper) (xs:List Operand) (κ:List Up→Option ρ):Option ρ:=
 match xs with
 | [x,y]=>match sv g x,sv g y with
  | .dat ⟨.int k,a,.sh⟩,.dat ⟨.int k',b,.sh⟩=>if k=k' then rW o [] (.dat ⟨.int k,As8 a b,.sh⟩) κ else none
  | _,_=>none
 | _=>none
def gV (g:zW) (o:Oper) (x:Operand) (i:Nat) (κ:List Up→Option ρ):Option ρ:=
 match x with
 | .tmp s=>
  match (g s).sv with
  | .tup d=>
   match yJ (zG i) d.t d.f d.x with
   | some e=>if e.f.free then rW o [] (.dat e) κ else if e.f.whole then rW o [.put s (.tup ⟨d.t,d.x,kD (zG i) d.f .gone⟩)] (.dat e) κ else none
   | none=>none
  | _=>none
 | _=>none
def A2u:SV→Option Dat
 | .dat d=>if d.f.free then some d else none
 | _=>none
def A3V (g:zW) (o:Oper) (c x y:Operand) (κ:List Up→Option ρ):Option ρ:=
 match sv g c with
 | .dat ⟨.bool,t,.sh⟩=>
  cond t (match A2u (sv g x) with|some d=>rW o [] (.dat d) κ|none=>none) (match A2u (sv g y) with|some d=>rW o [] (.dat d) κ|none=>none)
 | _=>none
def eQ (g:zW):List Operand→Option (List (Nat × Nat))
 | []=>some []
 | .tmp s :: l=>match (g s).sv with
  | .dat ⟨.ptr _,_,_⟩=>(eQ g l).map ((s,(g s).s) :: ·)
  | _=>none
 | _ :: _=>none
def Ai9 (E:Env) (mv:Bool) (o:Oper) (t:TypeId) (κ:List Up→Option ρ):Option ρ:=
 match E.tz t with
 | some τ=>rW o [] (.dat ⟨.ptr τ,τ.dflt,.own (.nw mv τ)⟩) κ
 | none=>none
def BF5 (E:Env) (g:zW) (mv:Bool) (o:Oper) (t:TypeId) (x:Operand) (κ:List Up→Option ρ):Option ρ:=
 match E.ty t,take g mv (E.ty t) x (sv g x) with
 | some τ,some (d,us)=>if d.t=τ then rW o us (.dat ⟨.ptr d.t,d.x,.own d.f⟩) κ else none
 | _,_=>none
def Fl.nopin:Fl→Bool
 | .sh=>true
 | .gone=>true
 | .own e=>e.nopin
 | .pr a b=>a.nopin&&b.nopin
 | .ar e=>e.nopin
 | .pin _ _=>false
def kV (g:zW) (x:Operand) (v:SV):List Nat:=
 match v with
 | .dat d=>if d.f.free then [] else (match x with|.tmp s=>[s]| _=>[])
 | .als r p _ _=>match atP g r p with|some d=>if d.f.free then [] else [r]| none=>[]
 | .pend r _ _ _ _ _=>(match x with|.tmp s=>[s]| _=>[])++[r]
 | .clo _ rs=>rs.map (·.1)
 | _=>[]
def A47 (g:zW) (x:Operand):SV→Option Pl
 | .dat _=>match x with|.tmp r=>some (r,[])| _=>none
 | .als r p c s=>if okA g r c s then some (r,p) else none
 | .adr r p c s=>if okB g r p c s then (match p.reverse with|.der :: q=>some (r,q.reverse)| _=>none) else none
 | _=>none
structure Io where
 r:Nat
 p:List PS
 e:Dat
def kills:List Io→List Up
 | []=>[]
 | o :: os=>.put o.r .dead :: kills os
structure Prep where
 g:zW
 ups:List Up
 hands:List (Option Dyn)
 ios:List Io
def A3Q (share:Bool) (m:Mode) (x:Operand) (g:zW):Option (Option Dyn × List Up × List Io):=
 match m with
 | .ro _=>
  if share then
   match sv g x with
   | .nils=>some (none,[],[])
   | v=>match yK g v with
    | some _=>(publish g x v).map fun us=>(none,us,[])
    | none=>none
  else some (none,[],[])
 | .mv t f=>
  match take g true (some t) x (sv g x) with
  | some (d,us)=>if d.t=t&&Fl.le f d.f&&f.nopin then some (some ⟨d.t,d.x⟩,us,[]) else none
  | none=>none
 | .io t f fo _ _=>
  match A47 g x (sv g x) with
  | some q=>
   match (g q.1).sv with
   | .dat e=>
    match yJ q.2 e.t e.f e.x with
    | some d=>if d.t=t&&d.f.base=f&&f.nopin&&fo.nopin&&!f.isGone then some (some ⟨d.t,d.x⟩,[.put q.1 .dead],[⟨q.1,q.2,e⟩]) else none
    | none=>none
   | _=>none
  | none=>none
def AG4 (share:Bool):List Mode→List Operand→zW→Option Prep
 | [],[],g=>some ⟨g,[],[],[]⟩
 | m :: ms,x :: xs,g=>
  match A3Q share m x g with
  | some (h,us,rs)=>(AG4 share ms xs (g.ups us)).map fun p=>⟨p.g,us++p.ups,h :: p.hands,rs++p.ios⟩
  | none=>none
 | _,_,_=>none
def mC (g:zW):List Mode→List Operand→List (Option Dyn)→Option (List Dyn × List Nat)
 | [],[],[]=>some ([],[])
 | .ro t :: ms,x :: xs,none :: hs=>
  match sv g x with
  | .nils=>match t with|.sl t=>(mC g ms xs hs).map fun r=>(⟨.sl t,([]:List t.D)⟩ :: r.1,r.2)| _=>none
  | v=>
   match yK g v with
   | some d=>if d.t=t then (mC g ms xs hs).map fun r=>(⟨d.t,d.x⟩ :: r.1,kV g x v++r.2) else none
   | none=>none
 | _ :: ms,_ :: xs,some d :: hs=>(mC g ms xs hs).map fun r=>(d :: r.1,r.2)
 | _,_,_=>none
def sE:Ty→Fl→Bool
 | .int _,_=>true
 | .bool,_=>true
 | .str,_=>true
 | .unit,_=>true
 | .fn,_=>false
 | .sl t,.own e=>sE t e
 | .sl _,_=>false
 | .ptr t,.own e=>sE t e
 | .ptr _,_=>false
 | .arr _ t,f=>sE t f.a
 | .pair a b,f=>sE a f.l&&sE b f.r
def jL:List Mode→Bool
 | []=>true
 | .io t _ fo _ _ :: ms=>sE t fo&&jL ms
 | _ :: ms=>jL ms
def AO8:Nat→Ty→Ty
 | 0,_=>.unit
 | n+1,.pair a b=>.pair a (AO8 n b)
 | _,t=>t
def A98:(n:Nat)→(t:Ty)→t.D→(AO8 n t).D
 | 0,_,_=>()
 | n+1,.pair _ b,x=>(x.1,A98 n b x.2)
 | _+1,.int _,x=>x
 | _+1,.bool,x=>x
 | _+1,.str,x=>x
 | _+1,.fn,x=>x
 | _+1,.unit,x=>x
 | _+1,.sl _,x=>x
 | _+1,.ptr _,x=>x
 | _+1,.arr _ _,x=>x
def AZ7:Nat→Fl→Fl
 | 0,_=>.sh
 | n+1,f=>.mkpr f.l (AZ7 n f.r)
def Af7:List Mode→List Io→(t:Ty)→t.D→Option (List Up)
 | [],[],_,_=>some []
 | .io t _ fo _ _ :: ms,o :: os,.pair a b,x=>
  match yJ o.p o.e.t o.e.f o.e.x with
  | some d=>
   match AV9 o.p o.e.t o.e.f o.e.x ⟨a,x.1,d.f.wrap fo⟩ with
   | some y=>if a=t then (Af7 ms os b x.2).map (.put o.r (.dat ⟨o.e.t,y.2,y.1⟩) :: ·) else none
   | none=>none
  | none=>none
 | .ro _ :: ms,os,t,x=>Af7 ms os t x
 | .mv _ _ :: ms,os,t,x=>Af7 ms os t x
 | _,_,_,_=>none
def A0J:Nat→Ty→Ty
 | 0,t=>t
 | n+1,.pair _ b=>A0J n b
 | _,t=>t
def A8T:(n:Nat)→(t:Ty)→t.D→(A0J n t).D
 | 0,_,x=>x
 | n+1,.pair _ b,x=>A8T n b x.2
 | _+1,.int _,x=>x
 | _+1,.bool,x=>x
 | _+1,.str,x=>x
 | _+1,.fn,x=>x
 | _+1,.unit,x=>x
 | _+1,.sl _,x=>x
 | _+1,.ptr _,x=>x
 | _+1,.arr _ _,x=>x
abbrev Run (E:Env):=(f:FuncId)→List Dyn→Option (E.cfg f).rt.D
def A7v (n:Nat) (t:Ty) (x:t.D) (f:Fl):Option SV:=
 match n,t,x,f with
 | 1,.pair a .unit,x,f=>some (.dat ⟨a,x.1,f.l⟩)
 | _,t,x,f=>some (.tup ⟨t,x,f⟩)
def A64 (c:FCfg):Bool:=!(sE (AO8 c.nres c.rt) (AZ7 c.nres c.rf)&&jL c.modes)
def AD1 (E:Env) (R:Run E) (g:zW) (o:Oper) (f:FuncId) (xs:List Operand) (κ:List Up→Option ρ):Option ρ:=
 match AG4 (A64 (E.cfg f)) (E.cfg f).modes xs g with
 | some p=>
  match mC p.g (E.cfg f).modes xs p.hands with
  | some (ds,lent)=>
   if (!A64 (E.cfg f)|| lent.isEmpty)&&(E.cfg f).rf.nopin&&oH (p.ios.map Io.r) then
    (R f ds).bind fun x=>
     match A7v (E.cfg f).nres (AO8 (E.cfg f).nres (E.cfg f).rt) (A98 (E.cfg f).nres (E.cfg f).rt x) (AZ7 (E.cfg f).nres (E.cfg f).rf),Af7 (E.cfg f).modes p.ios (A0J (E.cfg f).nres (E.cfg f).rt) (A8T (E.cfg f).nres (E.cfg f).rt x) with
     | some v,some us=>match o.dst with
      | some d=>if p.ios.any (Ag d ·.r) then none else κ (p.ups++(kills p.ios++(.put d v :: us)))
      | none=>κ (p.ups++(kills p.ios++us))
     | _,_=>none
   else none
  | none=>none
 | none=>none
def Up.v:Up→SV
 | .put _ v=>v
 | .mod _ v=>v
 | .pub _ v=>v
def SV.refs:SV→Bool
 | .adr _ _ _ _=>true
 | .als _ _ _ _=>true
 | .pend _ _ _ _ _ _=>true
 | .clo _ _=>true
 | _=>false
def A3z (g:zW) (us:List Up) (r:Nat):Bool:=
 match (g r).sv,((g.ups us) r).sv with
 | .dat a,.dat b=>decide (a.t=b.t)
 | _,_=>false
def Ap9 (d:Nat):Up→Bool
 | .put r _=>Ag d r
 | _=>false
def BG1:Option Nat→Nat→Bool
 | some d,r=>Ag d r
 | none,_=>false
def BL4:Option Nat→List Up→Bool
 | some d,us=>us.any (Ap9 d)
 | none,_=>true
def Up.soften (d:Option Nat) (g:zW) (us:List Up):Up→Up
 | .put r v=>if !BG1 d r&&A3z g us r then .mod r v else .put r v
 | u=>u
def softs (d:Option Nat) (g:zW) (us:List Up):List Up:=
 if us.all (fun u=>!u.v.refs)&&BL4 d us then us.map (Up.soften d g us) else us
def AV3 (E:Env) (R:Run E) (g:zW) (o:Oper) (f:FuncId) (xs:List Operand) (κ:List Up→Option ρ):Option ρ:=
 AD1 E R g o f xs fun us=>κ (softs o.dst g us)
def gE:FCaps→List Dyn
 | .nil=>[]
 | .int k n r=>⟨.ptr (.int k),n⟩ :: gE r
 | .fn v r=>⟨.ptr .fn,v⟩ :: gE r
def Af9:List Mode→List Dyn→Bool
 | [],[]=>true
 | .ro t :: ms,d :: ds=>decide (d.t=t)&&Af9 ms ds
 | _,_=>false
def A6d (E:Env) (R:Run E) (v:FnVal) (args:List Dyn) (τ:Ty):Option τ.D:=
 match v with
 | .nil=>none
 | .mk f cs=>
  if h:(E.cfg f).rt=.pair τ .unit then
   if Ag (E.cfg f).nres 1&&Af9 (E.cfg f).modes (args++gE cs)&&(E.cfg f).rf.l.whole then (R f (args++gE cs)).map fun x=>((cast (Am Ty.D h) x:(Ty.pair τ .unit).D)).1 else none
  else none
def fE (g:zW):List (Option Ty)→List Operand→Option (List Dyn)
 | some t :: ts,x :: xs=>
  match yK g (sv g x) with
  | some d=>if d.t=t&&d.f.whole then (fE g ts xs).map (⟨d.t,d.x⟩ :: ·) else none
  | none=>none
 | [],[]=>some []
 | _,_=>none
def cX (E:Env) (R:Run E) (g:zW) (o:Oper) (v:FnVal) (xs:List Operand) (ts:List TypeId) (κ:List Up→Option ρ):Option ρ:=
 match fE g (ts.map E.ty) xs,E.ty o.type with
 | some ds,some τ=>if sE τ .sh then (A6d E R v ds τ).bind fun x=>rW o [] (.dat ⟨τ,x,.sh⟩) κ else none
 | _,_=>none
def A63:Operand→Bool
 | .const (.slice none 0 0)=>true
 | _=>false
def BF8 (g:zW) (o:Oper) (op:BinOp) (t:Option Ty) (x:Operand) (κ:List Up→Option ρ):Option ρ:=
 match op,t,yK g (sv g x) with
 | .eql,some (.sl _),some ⟨.sl _,s,_⟩=>cond (Ag (Ac s) 0) (rW o [] .unk κ) (rW o [] (.dat ⟨.bool,false,.sh⟩) κ)
 | .neq,some (.sl _),some ⟨.sl _,s,_⟩=>cond (Ag (Ac s) 0) (rW o [] .unk κ) (rW o [] (.dat ⟨.bool,true,.sh⟩) κ)
 | _,_,_=>none
def At6:Ty→Bool
 | .int _=>true
 | .bool=>true
 | .str=>true
 | .unit=>true
 | .arr _ t=>At6 t
 | .pair a b=>At6 a&&At6 b
 | _=>false
def Ag7 (g:zW) (o:Oper) (t:Option Ty) (x:Operand) (i:Nat) (κ:List Up→Option ρ):Option ρ:=
 match sv g x with
 | .dat ⟨.pair a b,y,.sh⟩=>
  if t=some (.pair a b) then
   match yJ (zG i) (.pair a b) .sh y with
   | some e=>if e.f.free then rW o [] (.dat e) κ else none
   | none=>none
  else none
 | _=>none
def A04 (τ:Ty) (ys xs:List τ.D):List τ.D:=ys++Bq ys.length xs
def A4O (g:zW) (o:Oper) (t:Option Ty) (x y:Operand) (κ:List Up→Option ρ):Option ρ:=
 match t,iU g x (sv g x),yK g (sv g y) with
 | some (.sl τ),some q,some ⟨.sl τ2,ys,_⟩=>
  match (g q.1).sv with
  | .dat e=>
   match yJ q.2 e.t e.f e.x with
   | some ⟨.sl τ',xs,.own .sh⟩=>
    match (oV (.sl τ') (.sl τ) xs:Option (List τ.D)),(oV (.sl τ2) (.sl τ) ys:Option (List τ.D)) with
    | some xs,some ys=>
     match AV9 q.2 e.t e.f e.x ⟨.sl τ,A04 τ ys xs,.own .sh⟩ with
     | some z=>if At6 τ then cond (AI (Ac ys) (Ac xs)) (match o.dst with
       | some d=>if Ag d q.1 then none else κ [.mod q.1 (.dat ⟨e.t,z.2,z.1⟩),.put d (.dat ⟨.int .i64,(Ac ys:Int),.sh⟩)]
       | none=>κ [.mod q.1 (.dat ⟨e.t,z.2,z.1⟩)]) none else none
     | none=>none
    | _,_=>none
   | _=>none
  | _=>none
 | _,_,_=>none
def AA2 (E:Env) (g:zW) (o:Oper) (b:Builtin) (c:Call) (κ:List Up→Option ρ):Option ρ:=
 match b,c.args.toList,c.argTypes.toList with
 | .len,[x],[t]=>BG7 g o (E.ty t) x κ
 | .append,[x,y],[t,t']=>AN9 g o (E.sl t) (E.ty t') x y κ
 | .min,xs,_=>BG2 g o xs κ
 | .copy,[x,y],[t,_]=>A4O g o (E.sl t) x y κ
 | _,_,_=>none
def opK (E:Env) (R:Run E) (mv:Bool) (g:zW) (o:Oper) (κ:List Up→Option ρ):Option ρ:=
 match o.op with
 | .move x=>A2T g mv o (E.ty o.type) x κ
 | .assign x=>AO1 g mv o (E.ty o.type) x κ
 | .pick c x y=>A3V g o c x y κ
 | .alloc t=>Ai9 E mv o t κ
 | .box t x=>BF5 E g mv o t x κ
 | .build t ps=>Ai5 E g mv o t ps κ
 | .buildSlice t n ps=>mZ E g mv o t n ps κ
 | .load t x=>A4P g o (E.ty t) x κ
 | .store t x y=>Ah1 g mv o (E.ty t) x y κ
 | .nilCheck x=>BF9 g o x κ
 | .binOp op t x y _=>if A63 y then BF8 g o op (E.ty t) x κ else BG3 E op t (sv g x) (sv g y) fun d=>rW o [] (.dat d) κ
 | .unOp op _ x=>unK op (sv g x) fun d=>rW o [] (.dat d) κ
 | .convert s t x=>Af8 (E.ty s) (E.ty t) (yK g (sv g x)) fun d=>rW o [] (.dat d) κ
 | .makeFunc (.func h) first caps=>if first.toList.isEmpty then match eQ g caps.toList with|some rs=>rW o [] (.clo h rs) κ|none=>none else none
 | .makeSlice t l c=>iH E g mv o t l c κ
 | .slice t x lo hi none=>Al7 g o (E.ty t) x lo hi κ
 | .fieldAddr t x i=>iJ g o (E.ty t) x i κ
 | .indexAddr t x i=>iA g o (E.ty t) x i κ
 | .index t x i=>Ak6 g o (E.ty t) x i κ
 | .extract x i=>gV g o x i κ
 | .field t x i=>Ag7 g o (E.ty t) x i κ
 | .call c=>
  match c.callee with
  | .builtin b=>AA2 E g o b c κ
  | .value (.func f)=>AV3 E R g o f c.args.toList κ
  | .value (.tmp s)=>
   match yK g (g s).sv with
   | some ⟨.fn,v,_⟩=>cX E R g o v c.args.toList c.argTypes.toList κ
   | _=>none
  | _=>none
 | _=>none
end Go.Rf

end
section
namespace Go.Rf
variable {ρ:Type}
structure Rec where
 fp:List Nat
 wr:List Nat
 sf:List Nat
 bad:List Nat
 ts:List Nat
 tw:List Nat
def AE5:List Operand→List Nat
 | []=>[]
 | .tmp s :: l=>s :: AE5 l
 | _ :: l=>AE5 l
def at? (l:List Slot) (i:Nat):Slot:=l.getD i .dead
def AR0 (l:List Slot):List Nat→List Nat
 | []=>[]
 | s :: ss=>
  match (at? l s).sv with
  | .adr r _ _ _=>r :: AR0 l ss
  | .als r _ _ _=>r :: AR0 l ss
  | .pend r _ _ _ _ _=>r :: AR0 l ss
  | .clo _ rs=>rs.map (·.1)++AR0 l ss
  | _=>AR0 l ss
def Ad7 (o:Oper) (l:List Slot):List Nat:=
 let ts:=AE5 o.op.operands.toList
 ts++AR0 l ts
def tX (l:List Slot) (fp:List Nat):zW:=fun i=>if fp.any (Ag i ·) then at? l i else .dead
def upL (l:List Slot) (u:Up):List Slot:=l.set u.slot (u.on (at? l u.slot))
def oQ (l:List Slot):List Up→List Slot
 | []=>l
 | u :: us=>oQ (upL l u) us
def AJ3 (ops:List Oper):List Nat:=(Region.before ops.toArray).toList
def Ay4 (a b:List Nat):Bool:=a.any fun x=>b.any (Ag x ·)
def Au6 (b:List Nat):List Rec→Nat→Bool
 | [],_=>true
 | r :: rs,i=>go b r i rs (i+1)&&Au6 b rs (i+1)
where
 go (b:List Nat) (r:Rec) (i:Nat):List Rec→Nat→Bool
  | [],_=>true
  | q :: qs,j=>(Nat.testBit (b.getD j 0) i || (!Ay4 r.wr q.fp&&!Ay4 r.wr q.wr&&!Ay4 q.wr r.fp&&!Ay4 r.tw q.ts&&!Ay4 q.tw r.ts))&&go b r i qs (j+1)
def bX:List Oper→Nat→Bool
 | [],_=>true
 | o :: os,i=>o.after.toList.all (fun e=>!Region.binds .any e || AE e.on i)&&bX os (i+1)
def AX0 (l:List Slot) (us:List Up) (x:Nat):Bool:=
 !us.any (Ap9 x)&&(match Ak7 (at? l x).sv,Ak7 (at? (oQ l us) x).sv with|some a,some b=>decide (a=b)| _,_=>false)
def bQ (l:List Slot) (us:List Up):List Nat:=(us.map Up.slot).filter fun x=>!AX0 l us x
def A2q (mv:Bool) (l:List Slot) (o:Oper):List Nat:=
 match o.op with
 | .move x=>(match AH1 (at? l) mv x with|some s=>[s]| none=>[])
 | _=>[]
def A7w (rs:List Rec):Bool:=!Ay4 (rs.flatMap (·.sf)) (rs.flatMap (·.bad))
def BA3 (o:Oper) (x:Nat):Bool:=
 match o.op,o.dst with
 | .extract (.tmp s) _,some d=>Ag x s&&!Nat.beq x d
 | _,_=>false
def AI5 (l:List Slot) (o:Oper):List Nat:=
 match o.op with
 | .extract (.tmp s) i=>
  match (at? l s).sv with
  | .tup d=>
   match yJ (zG i) d.t d.f d.x with
   | some e=>if e.f.free then [s] else []
   | none=>[]
  | _=>[]
 | _=>[]
def BN2 (o:Oper) (us:List Up):List Nat:=(us.map Up.slot).filter fun x=>!BA3 o x
def AJ9 (mv:Bool) (gs:List Nat) (l:List Slot) (o:Oper) (us:List Up):Rec:=
 match A2q mv l o with
 | []=>
  match AI5 l o with
  | []=>⟨gs++Ad7 o l,us.map Up.slot,[],bQ l us,[],BN2 o us⟩
  | x=>⟨gs,us.map Up.slot,[],bQ l us,x,BN2 o us⟩
 | s=>⟨gs,us.map Up.slot,s,bQ l us,[],BN2 o us⟩
def Ag1 (l:List Slot) (i:Nat) (v:SV):List Slot:=l.set i ⟨v,(at? l i).c,(at? l i).s,(at? l i).u⟩
def jH (E:Env) (R:Run E) (mv:List Nat) (all:List Oper) (draw:Bool):List Oper→Nat→List Slot→List Rec→(List Slot→Option ρ)→Option ρ
 | [],_,l,acc,κ=>if draw then (if (Au6 (AJ3 all) acc 0&&A7w acc)&&bX all 0 then κ l else none) else κ l
 | o :: os,i,l,acc,κ=>
  let go (gs:List Nat) (l:List Slot):Option ρ:=
   opK E R (mv.any (Ag i ·)) (tX l (Ad7 o l)) o fun us=>
    jH E R mv all draw os (i+1) (oQ l us) (acc++[AJ9 (mv.any (Ag i ·)) gs l o us]) κ
  let skip (gs:List Nat) (l:List Slot):Option ρ:=
   match o.dst with
   | some d=>jH E R mv all draw os (i+1) (upL l (.put d .und)) (acc++[⟨gs,[d],[],[d],[],[d]⟩]) κ
   | none=>jH E R mv all draw os (i+1) l (acc++[⟨gs,[],[],[],[],[]⟩]) κ
  match o.guard with
  | none=>go [] l
  | some (j,want)=>
   match (all[j]?).bind Oper.dst with
   | none=>none
   | some g=>
    match (at? l g).sv with
    | .dat ⟨.bool,t,.sh⟩=>
     cond t (if want then go [g] (Ag1 l g (.dat ⟨.bool,true,.sh⟩)) else skip [g] (Ag1 l g (.dat ⟨.bool,true,.sh⟩)))
      (if want then skip [g] (Ag1 l g (.dat ⟨.bool,false,.sh⟩)) else go [g] (Ag1 l g (.dat ⟨.bool,false,.sh⟩)))
    | .und=>skip [g] l
    | _=>none
def A6Z {α:Type} (v:SV) (κ:SV→α):α:=
 match v with
 | .dat ⟨t,x,f⟩=>κ (.dat ⟨t,x,f⟩)
 | .tup ⟨t,x,f⟩=>κ (.tup ⟨t,x,f⟩)
 | .adr r p c s=>κ (.adr r p c s)
 | .als r p c s=>κ (.als r p c s)
 | .pend r p c s u ⟨t,x,f⟩=>κ (.pend r p c s u ⟨t,x,f⟩)
 | .clo g rs=>κ (.clo g rs)
 | .dead=>κ .dead
 | .nils=>κ .nils
 | .und=>κ .und
 | .unk=>κ .unk
def A28 {α:Type}:List Slot→(List Slot→α)→α
 | [],κ=>κ []
 | ⟨v,c,s,u⟩ :: l,κ=>A6Z v fun v=>A28 l fun l=>κ (⟨v,c,s,u⟩ :: l)
def A2c {α:Type}:List Nat→(List Nat→α)→α
 | [],κ=>κ []
 | n :: l,κ=>A2c l fun l=>κ (n :: l)
theorem A4a {α:Type} (v:SV) (κ:SV→α):A6Z v κ=κ v:=by cases v<;>rfl
theorem Az1 {α:Type}:∀ (l:List Slot) (κ:List Slot→α),A28 l κ=κ l
 | [],_=>rfl
 | ⟨v,c,s,u⟩ :: l,κ=>by simp only[A28,A4a,Az1 l]
theorem Au4 {α:Type}:∀ (l:List Nat) (κ:List Nat→α),A2c l κ=κ l
 | [],_=>rfl
 | n :: l,κ=>by simp only[A2c,Au4 l]
def BF3 (E:Env) (R:Run E) (mv:List Nat) (all:List Oper) (draw:Bool):List Oper→Nat→List Slot→List Rec→(List Slot→Option ρ)→Option ρ
 | [],_,l,acc,κ=>if draw then (if (Au6 (AJ3 all) acc 0&&A7w acc)&&bX all 0 then κ l else none) else κ l
 | o :: os,i,l,acc,κ=>A28 l fun l=>
  let go (gs:List Nat) (l:List Slot):Option ρ:=
   A2c (Ad7 o l) fun fp=>opK E R (mv.any (Ag i ·)) (tX l fp) o fun us=>
    BF3 E R mv all draw os (i+1) (oQ l us) (acc++[AJ9 (mv.any (Ag i ·)) gs l o us]) κ
  let skip (gs:List Nat) (l:List Slot):Option ρ:=
   match o.dst with
   | some d=>BF3 E R mv all draw os (i+1) (upL l (.put d .und)) (acc++[⟨gs,[d],[],[d],[],[d]⟩]) κ
   | none=>BF3 E R mv all draw os (i+1) l (acc++[⟨gs,[],[],[],[],[]⟩]) κ
  match o.guard with
  | none=>go [] l
  | some (j,want)=>
   match (all[j]?).bind Oper.dst with
   | none=>none
   | some g=>
    match (at? l g).sv with
    | .dat ⟨.bool,t,.sh⟩=>
     cond t (if want then go [g] (Ag1 l g (.dat ⟨.bool,true,.sh⟩)) else skip [g] (Ag1 l g (.dat ⟨.bool,true,.sh⟩)))
      (if want then skip [g] (Ag1 l g (.dat ⟨.bool,false,.sh⟩)) else go [g] (Ag1 l g (.dat ⟨.bool,false,.sh⟩)))
    | .und=>skip [g] l
    | _=>none
theorem AY9 {E:Env} {R:Run E} {mv:List Nat} {all:List Oper} {draw:Bool} {κ:List Slot→Option ρ}:∀ {os:List Oper} {i:Nat} {l:List Slot} {acc:List Rec},BF3 E R mv all draw os i l acc κ=jH E R mv all draw os i l acc κ
 | [],_,_,_=>rfl
 | o :: os,i,l,acc=>by
  unfold BF3 jH
  rw[Az1]
  simp only[Au4,AY9 (os:=os)]
def AQ1 (l:List Slot):SV→SV
 | .adr r p c s=>if okB (at? l ·) r p c s then .adr r p 0 0 else .dead
 | .als r p c s=>if okA (at? l ·) r c s then .als r p 0 0 else .dead
 | .clo g rs=>if rs.all (fun x=>Ag (at? l x.1).s x.2) then .clo g (rs.map fun x=>(x.1,0)) else .dead
 | .dat d=>.dat d
 | .tup d=>.tup d
 | .unk=>.unk
 | _=>.dead
def AG0 (keep:List Nat) (l:List Slot):List Slot→Nat→List SV
 | [],_=>[]
 | x :: xs,i=>(if keep.any (Ag i ·) then AQ1 l x.sv else .dead) :: AG0 keep l xs (i+1)
inductive Ex where
 | nm
 | ex (id:Nat)
 | ret
structure Out where
 e:Ex
 σ:List SV
abbrev nW:=FuncId→Code→List SV→Option Out
def Al9 (L:nW) (f:FuncId) (b:Code) (σ:List SV) (κ:Out→Option ρ):Option ρ:=(L f b σ).bind κ
def BF2 (k:List SV→(Out→Option ρ)→Option ρ) (κ:Out→Option ρ):Out→Option ρ
 | ⟨.nm,σ⟩=>k σ κ
 | o=>κ o
def AL5 (id:Nat) (κ:Out→Option ρ):Out→Option ρ
 | ⟨.ex j,σ⟩=>if Ag j id then κ ⟨.nm,σ⟩ else κ ⟨.ex j,σ⟩
 | o=>κ o
def lH (σ:List SV):List Slot:=σ.map fun v=>⟨v,0,0,0⟩
def BQ7 (c:FCfg) (id:Nat):List Nat:=(c.mv.filter fun x=>Ag x.1 id).map (·.2)
noncomputable def At1 (a b:Option ρ):Option ρ:=@ite _ (a=b) (Classical.propDecidable _) a none
theorem AB6 (a:Option ρ):At1 a a=a:=Ar rfl
theorem AQ4 {a b:Option ρ} {r:ρ} (h:At1 a b=some r):a=some r∧b=some r:=by
 unfold At1 at h
 split at h
 ·rename_i e;subst e;exact⟨h,h⟩
 ·cases h
theorem A3M {a b:Option ρ} {r:ρ} (h:a=some r) (h':b=some r):At1 a b=some r:=by rw[h,h'];exact AB6 _
def A4V (keep:List Nat):Bool:=keep.any (Ag 900000 ·)
def AH4:Code→Nat
 | .region id _ _=>id+1
 | .seq a b=>AH4 a+AH4 b
 | .cond _ a b=>AH4 a+AH4 b
 | .block _ b=>AH4 b
 | .loop b=>AH4 b
 | _=>0
def A2m (c:FCfg) (b:Code):List Nat:=match c.mv.any (fun x=>AI 4000000 x.1) with|true=>BQ7 c (4000000+AH4 b)| false=>[]
def Al8 (ks:List Nat):List SV→Nat→List Nat
 | [],_=>[]
 | v :: vs,i=>
  match ks.any (Ag i ·),v with
  | false,.adr r _ _ _=>r :: Al8 ks vs (i+1)
  | false,.als r _ _ _=>r :: Al8 ks vs (i+1)
  | false,.pend r _ _ _ _ _=>r :: Al8 ks vs (i+1)
  | false,.clo _ rs=>rs.map (·.1)++Al8 ks vs (i+1)
  | _,_=>Al8 ks vs (i+1)
def AT3 (ks rs:List Nat):List SV→Nat→List SV
 | [],_=>[]
 | v :: vs,i=>(if ks.any (Ag i ·)&&!rs.any (Ag i ·) then .dead else v) :: AT3 ks rs vs (i+1)
def killS:List Nat→List SV→List SV
 | [],σ=>σ
 | k :: ks,σ=>AT3 (k :: ks) (Al8 (k :: ks) σ 0) σ 0
def afterC (keep:List Nat) (t:Nat) (x:Bool) (σ:List SV):List SV:=
 if keep.any (Ag (t+1000000) ·) then σ.set t (.dat ⟨.bool,x,.sh⟩) else σ.set t .dead
noncomputable def evB (E:Env) (R:Run E) (L:nW) (f:FuncId):Code→List SV→(Out→Option ρ)→Option ρ
 | .skip,σ,κ=>κ ⟨.nm,σ⟩
 | .region id ops draw,σ,κ=>BF3 E R (BQ7 (E.cfg f) id) ops.toList draw ops.toList 0 (lH σ) [] fun l=>κ ⟨.nm,AG0 (E.cfg f).keep l l 0⟩
 | .seq a b,σ,κ=>evB E R L f a σ (BF2 (evB E R L f b) κ)
 | .cond c a b,σ,κ=>
  match c with
  | .tmp t=>
   match σ.getD t .dead with
   | .dat ⟨.bool,x,.sh⟩=>cond x (evB E R L f a (afterC (E.cfg f).keep t true σ) κ) (evB E R L f b (afterC (E.cfg f).keep t false σ) κ)
   | .unk=>if A4V (E.cfg f).keep then At1 (evB E R L f a (σ.set t .dead) κ) (evB E R L f b (σ.set t .dead) κ) else none
   | _=>none
  | .const (.bool x)=>cond x (evB E R L f a σ κ) (evB E R L f b σ κ)
  | _=>none
 | .block id b,σ,κ=>evB E R L f b σ (AL5 id κ)
 | .loop b,σ,κ=>Al9 L f b (killS (A2m (E.cfg f) b) σ) κ
 | .exit id,σ,κ=>κ ⟨.ex id,σ⟩
 | .ret,σ,κ=>κ ⟨.ret,σ⟩
 | _,_,_=>none
def sO:List Mode→List Dyn→Nat→Option (List SV)
 | [],[],_=>some []
 | .ro t :: ms,a :: as,i=>(oV a.t t a.x).bind fun x=>(sO ms as (i+1)).map (.dat ⟨t,x,.sh⟩ :: ·)
 | .mv t f :: ms,a :: as,i=>(oV a.t t a.x).bind fun x=>(sO ms as (i+1)).map (.dat ⟨t,x,f⟩ :: ·)
 | .io t f _ _ _ :: ms,a :: as,i=>(oV a.t t a.x).bind fun x=>(sO ms as (i+1)).map (.dat ⟨t,x,.mkpin i f⟩ :: ·)
 | _,_,_=>none
def A0h (E:Env) (σ:List SV):ResultVar→Option Dat
 | .tmp s=>match σ.getD s .dead with|.dat d=>some d|_=>none
 | .cell a τ=>match σ.getD a .dead with|.dat ⟨.ptr t,x,f⟩=>if E.ty τ=some t&&!f.isGone then some ⟨t,x,f.e⟩ else none|_=>none
def AP3:ResultVar→Nat
 | .tmp s=>s
 | .cell a _=>a
def bL {α:Type}:List (Option α)→Option (List α)
 | []=>some []
 | some a :: l=>(bL l).map (a :: ·)
 | none :: _=>none
def BK5:List PS→Bool
 | []=>true
 | .idx _ :: _=>false
 | .elm _ :: _=>false
 | _ :: p=>BK5 p
def AY3 (σ:List SV):List Mode→Nat→Option (List Dat)
 | [],_=>some []
 | .io t _ fo s p :: ms,i=>
  match σ.getD s .dead with
  | .dat d=>match yJ p d.t d.f d.x with
   | some e=>match e.f with
    | .pin j f=>if Ag i j&&Fl.le fo (.pin j f)&&e.t=t&&!f.isGone&&BK5 p then (AY3 σ ms (i+1)).map (⟨e.t,e.x,fo⟩ :: ·) else none
    | _=>none
   | none=>none
  | _=>none
 | _ :: ms,i=>AY3 σ ms (i+1)
def kN:List Mode→List Nat
 | []=>[]
 | .io _ _ _ s _ :: ms=>s :: kN ms
 | _ :: ms=>kN ms
def cB:List Dat→(t:Ty)→Fl→Option t.D
 | [],.unit,_=>some ()
 | d :: ds,.pair a b,f=>if Fl.le f.l d.f then (oV d.t a d.x).bind fun x=>(cB ds b f.r).map fun y=>(x,y) else none
 | _,_,_=>none
def finish (E:Env) (f:FuncId) (fn:Func) (σ:List SV):Option (E.cfg f).rt.D:=
 if oH (fn.results.toList.map AP3++kN (E.cfg f).modes)&&Ag fn.results.size (E.cfg f).nres&&(E.cfg f).rf.nopin then
  match bL (fn.results.toList.map (A0h E σ)),AY3 σ (E.cfg f).modes 0 with
  | some ds,some es=>cB (ds++es) (E.cfg f).rt (E.cfg f).rf
  | _,_=>none
 else none
def BP6 (E:Env) (f:FuncId) (fn:Func):Out→Option (E.cfg f).rt.D
 | ⟨.nm,σ⟩=>finish E f fn σ
 | ⟨.ret,σ⟩=>finish E f fn σ
 | _=>none
def pad (n:Nat) (σ:List SV):List SV:=σ++Az (n - σ.length) .dead
def opIn (n:Nat) (o:Oper):Bool:=
 (match o.dst with|some d=>AE d n|none=>true)&&(AE5 o.op.operands.toList).all (AE · n)
def iV (n:Nat):Code→Bool
 | .region _ ops _=>ops.toList.all (opIn n)
 | .seq a b=>iV n a&&iV n b
 | .cond _ a b=>iV n a&&iV n b
 | .block _ b=>iV n b
 | .loop b=>iV n b
 | _=>true
noncomputable def zF (E:Env) (R:Run E) (L:nW) (f:FuncId) (args:List Dyn):Option (E.cfg f).rt.D:=
 match E.P.funcs[f]? with
 | some fn=>
  match fn.body,sO (E.cfg f).modes args 0 with
  | some c,some σ=>if AI σ.length fn.ntmps&&iV fn.ntmps c then evB E R L f c (pad fn.ntmps σ) (BP6 E f fn) else none
  | _,_=>none
 | none=>none
noncomputable def AH3 (E:Env) (X:(f:FuncId)→Option (List Dyn→Option (E.cfg f).rt.D)) (R:Run E) (L:nW):Run E:=fun f args=>
 match X f with
 | some h=>h args
 | none=>zF E R L f args
noncomputable def Af6 (E:Env) (R:Run E) (L:nW):nW:=fun f b σ=>
 evB E R L f b σ fun o=>match o with
  | ⟨.nm,σ⟩=>L f b (killS (A2m (E.cfg f) b) σ)
  | o=>some o
noncomputable def vR (E:Env) (X:(f:FuncId)→Option (List Dyn→Option (E.cfg f).rt.D)):Nat→Run E × nW
 | 0=>(fun _ _=>none,fun _ _ _=>none)
 | k+1=>(AH3 E X (vR E X k).1 (vR E X k).2,Af6 E (vR E X k).1 (vR E X k).2)
end Go.Rf

end
section
namespace Go.Rf
variable {ρ:Type}
def sub:Code→List Nat→Code
 | .seq a _,0 :: p=>sub a p
 | .seq _ b,1 :: p=>sub b p
 | .cond _ a _,0 :: p=>sub a p
 | .cond _ _ b,1 :: p=>sub b p
 | .block _ b,0 :: p=>sub b p
 | .loop b,0 :: p=>sub b p
 | c,_=>c
def BJ9 (E:Env) (L:nW) (f:FuncId) (b:Code) (κ:Out→Option ρ):Out→Option ρ
 | ⟨.nm,σ⟩=>Al9 L f b (killS (A2m (E.cfg f) b) σ) κ
 | o=>κ o
noncomputable def kY (E:Env) (R:Run E) (L:nW) (f:FuncId):Code→List Nat→(Out→Option ρ)→(Out→Option ρ)
 | .seq a b,0 :: p,κ=>kY E R L f a p (BF2 (evB E R L f b) κ)
 | .seq _ b,1 :: p,κ=>kY E R L f b p κ
 | .cond _ a _,0 :: p,κ=>kY E R L f a p κ
 | .cond _ _ b,1 :: p,κ=>kY E R L f b p κ
 | .block id b,0 :: p,κ=>kY E R L f b p (AL5 id κ)
 | .loop b,0 :: p,κ=>kY E R L f b p (BJ9 E L f b κ)
 | _,_,κ=>κ
def A2i (fn:Func):Code:=fn.body.getD .skip
noncomputable def A3S (E:Env) (R:Run E) (L:nW) (f:FuncId):Code→List SV→(Out→Option ρ)→Option ρ
 | .loop b,σ,κ=>Al9 L f b σ κ
 | c,σ,κ=>evB E R L f c σ κ
noncomputable def zQ (E:Env) (R:Run E) (L:nW) (f:FuncId) (fn:Func) (p:List Nat) (σ:List SV):Option (E.cfg f).rt.D:=
 A3S E R L f (sub (A2i fn) p) σ (kY E R L f (A2i fn) p (BP6 E f fn))
def A9N:List SV→List (Nat × SV)→List SV
 | σ,[]=>σ
 | σ,(i,v) :: l=>A9N (σ.set i v) l
def mk (n:Nat) (l:List (Nat × SV)):List SV:=A9N (Az n .dead) l
end Go.Rf

end
section
namespace Go.Rf
def zV (t:Ty) (c:List Value):Value:=match t.agg with|true=>.agg c.toArray|false=>c.headD undef
def Blk (w:World) (b:Nat) (cs:Array Value):Prop:=∃ e fz,w.heap[b]?=some (.cells cs e fz)
def BO8:Ty→Bool
 | .int .u8=>true
 | _=>false
def AC1 (q:Bool) (w:World) (b:Nat) (cs:Array Value):Prop:=∃ e fz,w.heap[b]?=some (.cells cs e fz)∧(∀ o,o < cs.size→¬ (fz.1≤o∧o < fz.2))∧(q=true∨fz=(0,0))
theorem AC1.blk {q:Bool} {w:World} {b:Nat} {cs:Array Value} (h:AC1 q w b cs):Blk w b cs:=let ⟨e,f,h,_⟩:=h;⟨e,f,h⟩
theorem AC1.lt {q:Bool} {w:World} {b:Nat} {cs:Array Value} (h:AC1 q w b cs):b < w.heap.size:=let ⟨_,_,h,_⟩:=h;(A7.1 h).1
theorem Blk.lt {w:World} {b:Nat} {cs:Array Value} (h:Blk w b cs):b < w.heap.size:=let ⟨_,_,h⟩:=h;(A7.1 h).1
theorem Blk.same {w w':World} {b:Nat} {cs:Array Value} (e:w'.heap[b]?=w.heap[b]?) (h:Blk w b cs):Blk w' b cs:=by unfold Blk at *;rwa [e]
theorem AC1.same {q:Bool} {w w':World} {b:Nat} {cs:Array Value} (e:w'.heap[b]?=w.heap[b]?) (h:AC1 q w b cs):AC1 q w' b cs:=by unfold AC1 at *;rwa [e]
theorem Blk.inj {w:World} {b:Nat} {cs cs':Array Value} (h:Blk w b cs) (h':Blk w b cs'):cs=cs':=by
 obtain⟨_,_,h⟩:=h;obtain⟨_,_,h'⟩:=h';rw[h] at h';simp at h';exact h'.1
def nth {α:Type} (l:List α) (i:Nat):Option α:=l[i]?
def win (c:List Value) (o n:Nat):List Value:=(c.drop o).take n
theorem eY {c:List Value} {o n:Nat} (h:o+n≤c.length):(win c o n).length=n:=by simp[win];omega
theorem fG (c:List Value):win c 0 c.length=c:=by simp[win]
section
variable (S:Nat→Prop) (w:World)
mutual
def Aw7:FnVal→Value→Prop
 | .nil,v=>v=.nilFunc
 | .mk f cs,v=>∃ l:List Value,v=.func (.func f) #[] l.toArray∧qY cs l
def qY:FCaps→List Value→Prop
 | .nil,l=>l=[]
 | .int k n r,l=>∃ b l',l=.pointer (some ⟨b,0,none⟩) :: l'∧S b∧Blk w b #[.int k n]∧qY r l'
 | .fn v r,l=>∃ b u l',l=.pointer (some ⟨b,0,none⟩) :: l'∧S b∧Blk w b #[u]∧Aw7 v u∧qY r l'
end
def Rd:(t:Ty)→t.D→List Value→Prop
 | .int k,x,c=>c=[.int k x]
 | .bool,x,c=>c=[.bool x]
 | .str,x,c=>c=[.string ⟨⟨x⟩⟩]
 | .fn,x,c=>∃ v,c=[v]∧Aw7 S w x v
 | .unit,_,c=>c=[]
 | .sl t,x,c=>∃ ad cap,c=[.slice ad (Ac x) cap]∧Ac x≤cap ∧
   (x=([]:List t.D)∨∃ b o cs,ad=some ⟨b,o,none⟩∧S b∧Blk w b cs∧o+Ac x * t.size≤cs.size ∧
    ∀ (i:Nat) (y:t.D),nth x i=some y→Rd t y (win cs.toList (o+i * t.size) t.size))
 | .ptr t,x,c=>∃ b cs,c=[.pointer (some ⟨b,0,none⟩)]∧S b∧Blk w b cs∧cs.size=t.size∧Rd t x cs.toList
 | .arr n t,x,c=>Ac x=n∧c.length=n * t.size∧∀ (i:Nat) (y:t.D),nth x i=some y→Rd t y (win c (i * t.size) t.size)
 | .pair a b,x,c=>Rd a x.1 (c.take a.size)∧Rd b x.2 (c.drop a.size)
end
abbrev Key:=List Nat
structure SameOut (w w':World):Prop where
 os:w'.os=w.os
 tape:w'.tape=w.tape
 output:w'.output=w.output
theorem SameOut.rfl' {w:World}:SameOut w w:=⟨rfl,rfl,rfl⟩
theorem SameOut.trans {w w' w'':World} (h:SameOut w w') (h':SameOut w' w''):SameOut w w'':=⟨h'.os.trans h.os,h'.tape.trans h.tape,h'.output.trans h.output⟩
section
variable (S:Nat→Prop) (β:Key→Option Nat) (H:Nat→Option (List Value)) (w:World)
def pN (f:Fl) (c:List Value):Prop:=∀ k ∈ f.pins,H k=some c
def zN:Key→(t:Ty)→Fl→t.D→List Value→Prop
 | p,.sl t,f,x,c=>pN H f c∧match f.base with
  | .own e=>∃ ad cap,c=[.slice ad (Ac x) cap]∧Ac x≤cap ∧
    (cap=0∨∃ b o cs,ad=some ⟨b,o,none⟩∧β p=some b∧AC1 (BO8 t) w b cs∧o+cap * t.size≤cs.size ∧
     ∀ (i:Nat) (y:t.D),nth x i=some y→zN (p++[i]) t e y (win cs.toList (o+i * t.size) t.size))
  | .gone=>c.length=1
  | _=>Rd S w (.sl t) x c
 | p,.ptr t,f,x,c=>pN H f c∧match f.base with
  | .own e=>∃ b cs,c=[.pointer (some ⟨b,0,none⟩)]∧β p=some b∧AC1 false w b cs∧cs.size=t.size∧zN (p++[0]) t e x cs.toList
  | .gone=>c.length=1
  | _=>Rd S w (.ptr t) x c
 | p,.arr n t,f,x,c=>pN H f c∧match f.base with
  | .ar e=>Ac x=n∧c.length=n * t.size∧∀ (i:Nat) (y:t.D),nth x i=some y→zN (p++[i]) t e y (win c (i * t.size) t.size)
  | .gone=>c.length=n * t.size
  | _=>Rd S w (.arr n t) x c
 | p,.pair a b,f,x,c=>pN H f c∧match f.base with
  | .pr g h=>zN (p++[0]) a g x.1 (c.take a.size)∧zN (p++[1]) b h x.2 (c.drop a.size)
  | .gone=>c.length=a.size+b.size
  | _=>Rd S w (.pair a b) x c
 | _,.int k,f,x,c=>pN H f c∧match f.base with|.gone=>c.length=1|_=>Rd S w (.int k) x c
 | _,.bool,f,x,c=>pN H f c∧match f.base with|.gone=>c.length=1|_=>Rd S w .bool x c
 | _,.str,f,x,c=>pN H f c∧match f.base with|.gone=>c.length=1|_=>Rd S w .str x c
 | _,.fn,f,x,c=>pN H f c∧match f.base with|.gone=>c.length=1|_=>Rd S w .fn x c
 | _,.unit,f,x,c=>pN H f c∧match f.base with|.gone=>c.length=0|_=>Rd S w .unit x c
end
theorem AM7 {c:List Value} {n m:Nat} (h1:(c.take n).length=n) (h2:(c.drop n).length=m):c.length=n+m:=by
 simp at h1 h2;omega
theorem tC {S:Nat→Prop} {w:World}:∀ {t:Ty} {x:t.D} {c:List Value},Rd S w t x c→c.length=t.size
 | .int _,_,_,h=>by simp only[Rd] at h;subst h;rfl
 | .bool,_,_,h=>by simp only[Rd] at h;subst h;rfl
 | .str,_,_,h=>by simp only[Rd] at h;subst h;rfl
 | .fn,_,_,h=>by simp only[Rd] at h;obtain⟨v,rfl,_⟩:=h;rfl
 | .unit,_,_,h=>by simp only[Rd] at h;subst h;rfl
 | .sl _,_,_,h=>by simp only[Rd] at h;obtain⟨_,_,rfl,_⟩:=h;rfl
 | .ptr _,_,_,h=>by simp only[Rd] at h;obtain⟨_,_,rfl,_⟩:=h;rfl
 | .arr _ _,_,_,h=>by simp only[Rd] at h;exact h.2.1
 | .pair a b,_,_,h=>by
  simp only[Rd] at h
  exact AM7 (tC h.1) (tC h.2)
theorem zO {S:Nat→Prop} {β:Key→Option Nat} {H:Nat→Option (List Value)} {w:World}:
  ∀ {t:Ty} {p:Key} {f:Fl} {x:t.D} {c:List Value},zN S β H w p t f x c→c.length=t.size
 | .int _,_,_,_,_,h=>by simp only[zN] at h;obtain⟨_,h⟩:=h;split at h;exact h;exact tC h
 | .bool,_,_,_,_,h=>by simp only[zN] at h;obtain⟨_,h⟩:=h;split at h;exact h;exact tC h
 | .str,_,_,_,_,h=>by simp only[zN] at h;obtain⟨_,h⟩:=h;split at h;exact h;exact tC h
 | .fn,_,_,_,_,h=>by simp only[zN] at h;obtain⟨_,h⟩:=h;split at h;exact h;exact tC h
 | .unit,_,_,_,_,h=>by simp only[zN] at h;obtain⟨_,h⟩:=h;split at h;exact h;exact tC h
 | .sl _,_,_,_,_,h=>by
  simp only[zN] at h;obtain⟨_,h⟩:=h;split at h
  ·obtain⟨_,_,rfl,_⟩:=h;rfl
  ·exact h
  ·exact tC h
 | .ptr _,_,_,_,_,h=>by
  simp only[zN] at h;obtain⟨_,h⟩:=h;split at h
  ·obtain⟨_,_,rfl,_⟩:=h;rfl
  ·exact h
  ·exact tC h
 | .arr _ _,_,_,_,_,h=>by
  simp only[zN] at h;obtain⟨_,h⟩:=h;split at h
  ·exact h.2.1
  ·exact h
  ·exact tC h
 | .pair a b,_,_,_,_,h=>by
  simp only[zN] at h;obtain⟨_,h⟩:=h;split at h
  ·exact AM7 (zO h.1) (zO h.2)
  ·exact h
  ·exact tC h
mutual
theorem Aw0 {S S':Nat→Prop} {w w':World} (h:∀ b,S b→S' b∧w'.heap[b]?=w.heap[b]?):∀ {v:FnVal} {u:Value},Aw7 S w v u→Aw7 S' w' v u
 | .nil,_,k=>by simp only[Aw7] at k ⊢;exact k
 | .mk f cs,_,k=>by simp only[Aw7] at k ⊢;obtain⟨l,e,k⟩:=k;exact⟨l,e,AG2 h k⟩
theorem AG2 {S S':Nat→Prop} {w w':World} (h:∀ b,S b→S' b∧w'.heap[b]?=w.heap[b]?):∀ {v:FCaps} {u:List Value},qY S w v u→qY S' w' v u
 | .nil,_,k=>by simp only[qY] at k ⊢;exact k
 | .int k n r,_,q=>by
  simp only[qY] at q ⊢;obtain⟨b,l,e,hs,hb,q⟩:=q
  exact⟨b,l,e,(h b hs).1,hb.same (h b hs).2,AG2 h q⟩
 | .fn v r,_,q=>by
  simp only[qY] at q ⊢;obtain⟨b,u,l,e,hs,hb,q,q'⟩:=q
  exact⟨b,u,l,e,(h b hs).1,hb.same (h b hs).2,Aw0 h q,AG2 h q'⟩
end
theorem zM {S S':Nat→Prop} {w w':World} (h:∀ b,S b→S' b∧w'.heap[b]?=w.heap[b]?):
  ∀ {t:Ty} {x:t.D} {c:List Value},Rd S w t x c→Rd S' w' t x c
 | .int _,_,_,k=>by simp only[Rd] at k ⊢;exact k
 | .bool,_,_,k=>by simp only[Rd] at k ⊢;exact k
 | .str,_,_,k=>by simp only[Rd] at k ⊢;exact k
 | .fn,_,_,k=>by simp only[Rd] at k ⊢;obtain⟨v,e,k⟩:=k;exact⟨v,e,Aw0 h k⟩
 | .unit,_,_,k=>by simp only[Rd] at k ⊢;exact k
 | .sl _,_,_,k=>by
  simp only[Rd] at k ⊢
  obtain⟨ad,cap,e,hl,k⟩:=k
  refine⟨ad,cap,e,hl,k.imp id ?_⟩
  rintro⟨b,o,cs,e,hs,hb,hz,k⟩
  exact⟨b,o,cs,e,(h b hs).1,hb.same (h b hs).2,hz,fun i y hy=>zM h (k i y hy)⟩
 | .ptr _,_,_,k=>by
  simp only[Rd] at k ⊢
  obtain⟨b,cs,e,hs,hb,hz,k⟩:=k
  exact⟨b,cs,e,(h b hs).1,hb.same (h b hs).2,hz,zM h k⟩
 | .arr _ _,_,_,k=>by
  simp only[Rd] at k ⊢
  exact⟨k.1,k.2.1,fun i y hy=>zM h (k.2.2 i y hy)⟩
 | .pair _ _,_,_,k=>by simp only[Rd] at k ⊢;exact⟨zM h k.1,zM h k.2⟩
theorem zI {S S':Nat→Prop} {β β':Key→Option Nat} {H:Nat→Option (List Value)} {w w':World} (h:∀ b,S b→S' b∧w'.heap[b]?=w.heap[b]?):
  ∀ {t:Ty} {p q:Key} {f:Fl} {x:t.D} {c:List Value},(∀ s b,β (p++s)=some b→β' (q++s)=some b∧w'.heap[b]?=w.heap[b]?) →
   zN S β H w p t f x c→zN S' β' H w' q t f x c
 | .int _,_,_,_,_,_,_,k=>by simp only[zN] at k ⊢;refine⟨k.1,?_⟩;replace k:=k.2;split at k;exact k;exact zM h k
 | .bool,_,_,_,_,_,_,k=>by simp only[zN] at k ⊢;refine⟨k.1,?_⟩;replace k:=k.2;split at k;exact k;exact zM h k
 | .str,_,_,_,_,_,_,k=>by simp only[zN] at k ⊢;refine⟨k.1,?_⟩;replace k:=k.2;split at k;exact k;exact zM h k
 | .fn,_,_,_,_,_,_,k=>by simp only[zN] at k ⊢;refine⟨k.1,?_⟩;replace k:=k.2;split at k;exact k;exact zM h k
 | .unit,_,_,_,_,_,_,k=>by simp only[zN] at k ⊢;refine⟨k.1,?_⟩;replace k:=k.2;split at k;exact k;exact zM h k
 | .sl _,p,q,f,_,_,hb,k=>by
  simp only[zN] at k ⊢
  refine⟨k.1,?_⟩
  replace k:=k.2
  split at k
  ·obtain⟨ad,cap,e,hl,k⟩:=k
   refine⟨ad,cap,e,hl,k.imp id ?_⟩
   rintro⟨b,o,cs,e,hp,ho,hz,k⟩
   have hq:=hb [] b (by simpa using hp)
   simp only[A9] at hq
   exact⟨b,o,cs,e,hq.1,ho.same hq.2,hz,fun i y hy=>zI h (fun s b hs=>by simpa using hb (i :: s) b (by simpa using hs)) (k i y hy)⟩
  ·exact k
  ·exact zM h k
 | .ptr _,p,q,f,_,_,hb,k=>by
  simp only[zN] at k ⊢
  refine⟨k.1,?_⟩
  replace k:=k.2
  split at k
  ·obtain⟨b,cs,e,hp,ho,hz,k⟩:=k
   have hq:=hb [] b (by simpa using hp)
   simp only[A9] at hq
   exact⟨b,cs,e,hq.1,ho.same hq.2,hz,zI h (fun s b hs=>by simpa using hb (0 :: s) b (by simpa using hs)) k⟩
  ·exact k
  ·exact zM h k
 | .arr _ _,p,q,f,_,_,hb,k=>by
  simp only[zN] at k ⊢
  refine⟨k.1,?_⟩
  replace k:=k.2
  split at k
  ·exact⟨k.1,k.2.1,fun i y hy=>zI h (fun s b hs=>by simpa using hb (i :: s) b (by simpa using hs)) (k.2.2 i y hy)⟩
  ·exact k
  ·exact zM h k
 | .pair _ _,p,q,f,_,_,hb,k=>by
  simp only[zN] at k ⊢
  refine⟨k.1,?_⟩
  replace k:=k.2
  split at k
  ·exact⟨zI h (fun s b hs=>by simpa using hb (0 :: s) b (by simpa using hs)) k.1,zI h (fun s b hs=>by simpa using hb (1 :: s) b (by simpa using hs)) k.2⟩
  ·exact k
  ·exact zM h k
end Go.Rf

end
section
namespace Go.Rf
def sB:(t:Ty)→Fl→Key→Bool
 | .sl t,f,s=>match f.base with
  | .own e=>match s with|[]=>true|_ :: s=>sB t e s
  | _=>false
 | .ptr t,f,s=>match f.base with
  | .own e=>match s with|[]=>true|0 :: s=>sB t e s|_=>false
  | _=>false
 | .arr _ t,f,s=>match f.base with
  | .ar e=>match s with|_ :: s=>sB t e s|_=>false
  | _=>false
 | .pair a b,f,s=>match f.base with
  | .pr g h=>match s with|0 :: s=>sB a g s|1 :: s=>sB b h s|_=>false
  | _=>false
 | _,_,_=>false
theorem tQ:∀ {f:Fl},f.whole=true→f.base.whole=true
 | .pin _ f,h=>by simp only[Fl.whole] at h;simp only[Fl.base];exact tQ h
 | .sh,h|.gone,h|.own _,h|.pr _ _,h|.ar _,h=>h
theorem zL:∀ {f:Fl} {k:Nat} {g:Fl},f.base≠.pin k g
 | .pin _ f,_,_=>by simp only[Fl.base];exact zL
 | .sh,_,_|.gone,_,_|.own _,_,_|.pr _ _,_,_|.ar _,_,_=>by simp[Fl.base]
theorem gA:∀ {f g:Fl},g.le f=true→g.base.le f.base=true
 | .pin k f,.pin j e,h=>by simp only[Fl.le,Ae] at h;simp only[Fl.base];exact gA h.2
 | .pin k f,.sh,h|.pin k f,.gone,h|.pin k f,.own _,h|.pin k f,.pr _ _,h|.pin k f,.ar _,h=>by
  simp only[Fl.le] at h;simp only[Fl.base];exact gA (f:=f) h
 | .sh,g,h=>by cases g<;>simp_all[Fl.le,Fl.base,Fl.low]
 | .gone,g,h=>by cases g<;>simp_all[Fl.le,Fl.base]
 | .own f,g,h=>by cases g<;>simp_all[Fl.le,Fl.base]
 | .pr a b,g,h=>by cases g<;>simp_all[Fl.le,Fl.base]
 | .ar a,g,h=>by cases g<;>simp_all[Fl.le,Fl.base]
theorem A5t:∀ {f g:Fl},g.le f=true→∀ k ∈ g.pins,k ∈ f.pins
 | .pin k f,.pin j e,h=>by
  simp only[Fl.le,Ae] at h
  simp only[Fl.pins,AF]
  rintro i (rfl|hi)
  ·exact .inl (Nat.eq_of_beq_eq_true h.1)
  ·exact .inr (A5t h.2 i hi)
 | .pin k f,.sh,h|.pin k f,.gone,h|.pin k f,.own _,h|.pin k f,.pr _ _,h|.pin k f,.ar _,h=>by simp[Fl.pins]
 | .sh,g,h=>by cases g<;>simp_all[Fl.le,Fl.pins,Fl.low]
 | .gone,g,h=>by cases g<;>simp_all[Fl.le,Fl.pins]
 | .own f,g,h=>by cases g<;>simp_all[Fl.le,Fl.pins]
 | .pr a b,g,h=>by cases g<;>simp_all[Fl.le,Fl.pins]
 | .ar a,g,h=>by cases g<;>simp_all[Fl.le,Fl.pins]
section
variable {S S':Nat→Prop} {β β':Key→Option Nat} {H:Nat→Option (List Value)} {w w':World}
theorem AP7 {α:Type} {x:List α} {cap:Nat} (h:x.length≤cap) (hc:cap=0):x=[]:=List.length_eq_zero_iff.1 (by omega)
theorem wY:∀ {t:Ty} {p:Key} {f:Fl} {x:t.D} {c:List Value},f.whole=true →
   (∀ b,S b→S' b)→(∀ s b,β (p++s)=some b→S' b)→zN S β H w p t f x c→Rd S' w t x c
 | .int _,_,_,_,_,hf,h,hb,k=>by
  simp only[zN] at k;replace k:=k.2;have:=tQ hf
  split at k
  ·simp_all[Fl.whole]
  ·exact zM (fun b hs=>⟨h b hs,rfl⟩) k
 | .bool,_,_,_,_,hf,h,hb,k=>by
  simp only[zN] at k;replace k:=k.2;have:=tQ hf
  split at k
  ·simp_all[Fl.whole]
  ·exact zM (fun b hs=>⟨h b hs,rfl⟩) k
 | .str,_,_,_,_,hf,h,hb,k=>by
  simp only[zN] at k;replace k:=k.2;have:=tQ hf
  split at k
  ·simp_all[Fl.whole]
  ·exact zM (fun b hs=>⟨h b hs,rfl⟩) k
 | .fn,_,_,_,_,hf,h,hb,k=>by
  simp only[zN] at k;replace k:=k.2;have:=tQ hf
  split at k
  ·simp_all[Fl.whole]
  ·exact zM (fun b hs=>⟨h b hs,rfl⟩) k
 | .unit,_,_,_,_,hf,h,hb,k=>by
  simp only[zN] at k;replace k:=k.2;have:=tQ hf
  split at k
  ·simp_all[Fl.whole]
  ·exact zM (fun b hs=>⟨h b hs,rfl⟩) k
 | .sl t,p,f,x,_,hf,h,hb,k=>by
  simp only[zN] at k;replace k:=k.2;have hw:=tQ hf
  split at k
  ·rename_i e he
   rw[he] at hw
   obtain⟨ad,cap,e1,hl,k⟩:=k
   simp only[Rd]
   refine⟨ad,cap,e1,hl,?_⟩
   rcases k with hc|⟨b,o,cs,e,hp,ho,hz,k⟩
   ·exact .inl (AP7 hl hc)
   ·refine .inr ⟨b,o,cs,e,hb [] b (by simpa using hp),ho.blk,?_,fun i y hy=>?_⟩
    ·have:=Af t.size hl;omega
    ·exact wY (by simpa[Fl.whole] using hw) h (fun s b hs=>hb (i :: s) b (by simpa using hs)) (k i y hy)
  ·simp_all[Fl.whole]
  ·exact zM (fun b hs=>⟨h b hs,rfl⟩) k
 | .ptr t,p,f,x,_,hf,h,hb,k=>by
  simp only[zN] at k;replace k:=k.2;have hw:=tQ hf
  split at k
  ·rename_i e he
   rw[he] at hw
   obtain⟨b,cs,e1,hp,ho,hz,k⟩:=k
   simp only[Rd]
   exact⟨b,cs,e1,hb [] b (by simpa using hp),ho.blk,hz,wY (by simpa[Fl.whole] using hw) h (fun s b hs=>hb (0 :: s) b (by simpa using hs)) k⟩
  ·simp_all[Fl.whole]
  ·exact zM (fun b hs=>⟨h b hs,rfl⟩) k
 | .arr _ t,p,f,x,_,hf,h,hb,k=>by
  simp only[zN] at k;replace k:=k.2;have hw:=tQ hf
  split at k
  ·rename_i e he
   rw[he] at hw
   simp only[Rd]
   exact⟨k.1,k.2.1,fun i y hy=>wY (by simpa[Fl.whole] using hw) h (fun s b hs=>hb (i :: s) b (by simpa using hs)) (k.2.2 i y hy)⟩
  ·simp_all[Fl.whole]
  ·exact zM (fun b hs=>⟨h b hs,rfl⟩) k
 | .pair _ _,p,f,x,_,hf,h,hb,k=>by
  simp only[zN] at k;replace k:=k.2;have hw:=tQ hf
  split at k
  ·rename_i g g' he
   rw[he] at hw
   simp only[Fl.whole,Ae] at hw
   simp only[Rd]
   exact⟨wY hw.1 h (fun s b hs=>hb (0 :: s) b (by simpa using hs)) k.1,wY hw.2 h (fun s b hs=>hb (1 :: s) b (by simpa using hs)) k.2⟩
  ·simp_all[Fl.whole]
  ·exact zM (fun b hs=>⟨h b hs,rfl⟩) k
theorem pN.le {f g:Fl} {c:List Value} (h:g.le f=true) (k:pN H f c):pN H g c:=fun i hi=>k i (A5t h i hi)
theorem tZ:∀ {f:Fl},f.low=true→f.base=f∧f.pins=[]
 | .sh,_|.gone,_|.pr _ _,_|.ar _,_=>⟨rfl,rfl⟩
 | .own _,h=>by simp[Fl.low] at h
 | .pin _ _,h=>by simp[Fl.low] at h
theorem AA1:∀ {t:Ty} {p:Key} {f:Fl} {x:t.D} {c:List Value},f.low=true→Rd S w t x c→zN S β H w p t f x c
 | .int _,_,f,_,_,hf,k=>by have:=tC k;simp only[zN,(tZ hf).1,pN,(tZ hf).2];refine⟨by simp,?_⟩;cases f<;>first|exact k|exact this
 | .bool,_,f,_,_,hf,k=>by have:=tC k;simp only[zN,(tZ hf).1,pN,(tZ hf).2];refine⟨by simp,?_⟩;cases f<;>first|exact k|exact this
 | .str,_,f,_,_,hf,k=>by have:=tC k;simp only[zN,(tZ hf).1,pN,(tZ hf).2];refine⟨by simp,?_⟩;cases f<;>first|exact k|exact this
 | .fn,_,f,_,_,hf,k=>by have:=tC k;simp only[zN,(tZ hf).1,pN,(tZ hf).2];refine⟨by simp,?_⟩;cases f<;>first|exact k|exact this
 | .unit,_,f,_,_,hf,k=>by have:=tC k;simp only[zN,(tZ hf).1,pN,(tZ hf).2];refine⟨by simp,?_⟩;cases f<;>first|exact k|exact this
 | .sl t,_,f,_,_,hf,k=>by have:=tC k;simp only[zN,(tZ hf).1,pN,(tZ hf).2];refine⟨by simp,?_⟩;cases f<;>first|exact k|exact this|simp[Fl.low] at hf
 | .ptr t,_,f,_,_,hf,k=>by have:=tC k;simp only[zN,(tZ hf).1,pN,(tZ hf).2];refine⟨by simp,?_⟩;cases f<;>first|exact k|exact this|simp[Fl.low] at hf
 | .arr n t,_,f,_,_,hf,k=>by
  have:=tC k
  simp only[zN,(tZ hf).1,pN,(tZ hf).2]
  refine⟨by simp,?_⟩
  cases f with
  | ar e=>simp only[Rd] at k;exact⟨k.1,k.2.1,fun i y hy=>AA1 (by simpa[Fl.low] using hf) (k.2.2 i y hy)⟩
  | _=>first|exact k|exact this
 | .pair a b,_,f,_,_,hf,k=>by
  have:=tC k
  simp only[zN,(tZ hf).1,pN,(tZ hf).2]
  refine⟨by simp,?_⟩
  cases f with
  | pr e1 e2=>simp only[Rd] at k;simp only[Fl.low,Ae] at hf;exact⟨AA1 hf.1 k.1,AA1 hf.2 k.2⟩
  | _=>first|exact k|exact this
theorem Ad6 {f g:Fl} {P:Prop} {Q:Prop} (hle:g.base.le f.base=true) {n:Nat} {c:List Value}
  (hq:P→c.length=n) (hpq:P→Q)
  (k:match f.base with|.gone=>c.length=n|_=>P):match g.base with|.gone=>c.length=n|_=>Q:=by
 revert hle k
 cases f.base<;>cases g.base<;>simp[Fl.le,Fl.low]<;>intros<;>first|assumption|(apply hq;assumption)| (apply hpq;assumption)
theorem bP (h:∀ b,S b→S' b∧w'.heap[b]?=w.heap[b]?):
  ∀ {t:Ty} {p q:Key} {f g:Fl} {x:t.D} {c:List Value},g.le f=true →
   (∀ s b,β (p++s)=some b→w'.heap[b]?=w.heap[b]?∧(sB t g s=true→β' (q++s)=some b)∧(sB t g s=false→S' b)) →
   zN S β H w p t f x c→zN S' β' H w' q t g x c
 | .int _,p,q,f,g,x,c,hle,hb,k=>by
  simp only[zN] at k ⊢
  exact⟨k.1.le hle,Ad6 (gA hle) tC (zM h) k.2⟩
 | .bool,p,q,f,g,x,c,hle,hb,k=>by
  simp only[zN] at k ⊢
  exact⟨k.1.le hle,Ad6 (gA hle) tC (zM h) k.2⟩
 | .str,p,q,f,g,x,c,hle,hb,k=>by
  simp only[zN] at k ⊢
  exact⟨k.1.le hle,Ad6 (gA hle) tC (zM h) k.2⟩
 | .fn,p,q,f,g,x,c,hle,hb,k=>by
  simp only[zN] at k ⊢
  exact⟨k.1.le hle,Ad6 (gA hle) tC (zM h) k.2⟩
 | .unit,p,q,f,g,x,c,hle,hb,k=>by
  simp only[zN] at k ⊢
  exact⟨k.1.le hle,Ad6 (gA hle) tC (zM h) k.2⟩
 | .sl t,p,q,f,g,x,c,hle,hb,k=>by
  have hl:=zO k
  have hle':=gA hle
  have hrd:f.whole=true→(∀ s,sB (.sl t) g s=false)→Rd S' w' (.sl t) x c:=fun hw hn=>
   zM (S:=fun b=>(S b∨∃ s,β (p++s)=some b)) (fun b hs=>hs.elim (h b) (fun ⟨s,hs⟩=>⟨(hb s b hs).2.2 (hn s),(hb s b hs).1⟩))
    (wY hw (fun _=>.inl) (fun s b hs=>.inr ⟨s,hs⟩) k)
  simp only[zN] at k ⊢
  refine⟨k.1.le hle,?_⟩
  replace k:=k.2
  cases hg:g.base with
  | gone=>exact hl
  | own e=>
   cases hf:f.base with
   | own e'=>
    rw[hf,hg] at hle'
    rw[hf] at k
    obtain⟨ad,cap,e1,hl,k⟩:=k
    refine⟨ad,cap,e1,hl,k.imp id ?_⟩
    rintro⟨b,o,cs,e2,hp,ho,hz,k⟩
    have h0:=hb [] b (by simpa using hp)
    exact⟨b,o,cs,e2,by simpa using h0.2.1 (by simp[sB,hg]),ho.same h0.1,hz,fun i y hy=>bP h (by simpa[Fl.le] using hle')
     (fun s b hs=>by
      have:=hb (i :: s) b (by simpa using hs)
      refine⟨this.1,fun ho=>by simpa using this.2.1 (by simpa[sB,hg] using ho),fun ho=>this.2.2 (by simpa[sB,hg] using ho)⟩) (k i y hy)⟩
   | _=>rw[hf,hg] at hle';simp_all[Fl.le,Fl.low,zL]
  | sh=>
   have hn:∀ s,sB (.sl t) g s=false:=fun s=>by simp[sB,hg]
   cases hf:f.base with
   | sh=>rw[hf] at k;exact zM h k
   | gone=>rw[hf,hg] at hle';simp[Fl.le] at hle'
   | own e'=>
    rw[hf,hg] at hle'
    refine zM (S:=fun b=>(S b∨∃ s,β (p++s)=some b)) (fun b hs=>hs.elim (h b) (fun ⟨s,hs⟩=>⟨(hb s b hs).2.2 (hn s),(hb s b hs).1⟩)) ?_
    rw[hf] at k
    simp only[Fl.le] at hle'
    exact wY (f:=.own e') (t:=.sl t) (p:=p) (H:=H) (β:=β) (S:=S) (by simpa[Fl.whole] using hle') (fun _=>.inl) (fun s b hs=>.inr ⟨s,hs⟩)
     (by simp only[zN];exact⟨by simp[pN,Fl.pins],k⟩)
   | pr a b=>rw[hf] at k;exact zM h k
   | ar a=>rw[hf] at k;exact zM h k
   | pin a b=>exact absurd hf zL
  | pr a b=>
   cases hf:f.base with
   | own e'=>rw[hf,hg] at hle';simp[Fl.le] at hle'
   | gone=>rw[hf,hg] at hle';simp[Fl.le] at hle'
   | pin a b=>exact absurd hf zL
   | _=>rw[hf] at k;exact zM h k
  | ar a=>
   cases hf:f.base with
   | own e'=>rw[hf,hg] at hle';simp[Fl.le] at hle'
   | gone=>rw[hf,hg] at hle';simp[Fl.le] at hle'
   | pin a b=>exact absurd hf zL
   | _=>rw[hf] at k;exact zM h k
  | pin a b=>exact absurd hg zL
 | .ptr t,p,q,f,g,x,c,hle,hb,k=>by
  have hl:=zO k
  have hle':=gA hle
  simp only[zN] at k ⊢
  refine⟨k.1.le hle,?_⟩
  replace k:=k.2
  cases hg:g.base with
  | gone=>exact hl
  | own e=>
   cases hf:f.base with
   | own e'=>
    rw[hf,hg] at hle'
    rw[hf] at k
    obtain⟨b,cs,e2,hp,ho,hz,k⟩:=k
    have h0:=hb [] b (by simpa using hp)
    exact⟨b,cs,e2,by simpa using h0.2.1 (by simp[sB,hg]),ho.same h0.1,hz,bP h (by simpa[Fl.le] using hle')
     (fun s b hs=>by
      have:=hb (0 :: s) b (by simpa using hs)
      refine⟨this.1,fun ho=>by simpa using this.2.1 (by simpa[sB,hg] using ho),fun ho=>this.2.2 (by simpa[sB,hg] using ho)⟩) k⟩
   | _=>rw[hf,hg] at hle';simp_all[Fl.le,Fl.low,zL]
  | sh=>
   have hn:∀ s,sB (.ptr t) g s=false:=fun s=>by simp[sB,hg]
   cases hf:f.base with
   | sh=>rw[hf] at k;exact zM h k
   | gone=>rw[hf,hg] at hle';simp[Fl.le] at hle'
   | own e'=>
    rw[hf,hg] at hle'
    refine zM (S:=fun b=>(S b∨∃ s,β (p++s)=some b)) (fun b hs=>hs.elim (h b) (fun ⟨s,hs⟩=>⟨(hb s b hs).2.2 (hn s),(hb s b hs).1⟩)) ?_
    rw[hf] at k
    simp only[Fl.le] at hle'
    exact wY (f:=.own e') (t:=.ptr t) (p:=p) (H:=H) (β:=β) (S:=S) (by simpa[Fl.whole] using hle') (fun _=>.inl) (fun s b hs=>.inr ⟨s,hs⟩)
     (by simp only[zN];exact⟨by simp[pN,Fl.pins],k⟩)
   | pr a b=>rw[hf] at k;exact zM h k
   | ar a=>rw[hf] at k;exact zM h k
   | pin a b=>exact absurd hf zL
  | pr a b=>
   cases hf:f.base with
   | own e'=>rw[hf,hg] at hle';simp[Fl.le] at hle'
   | gone=>rw[hf,hg] at hle';simp[Fl.le] at hle'
   | pin a b=>exact absurd hf zL
   | _=>rw[hf] at k;exact zM h k
  | ar a=>
   cases hf:f.base with
   | own e'=>rw[hf,hg] at hle';simp[Fl.le] at hle'
   | gone=>rw[hf,hg] at hle';simp[Fl.le] at hle'
   | pin a b=>exact absurd hf zL
   | _=>rw[hf] at k;exact zM h k
  | pin a b=>exact absurd hg zL
 | .arr n t,p,q,f,g,x,c,hle,hb,k=>by
  have hl:=zO k
  have hle':=gA hle
  simp only[zN] at k ⊢
  refine⟨k.1.le hle,?_⟩
  replace k:=k.2
  cases hg:g.base with
  | gone=>exact hl
  | ar e=>
   cases hf:f.base with
   | ar e'=>
    rw[hf,hg] at hle'
    rw[hf] at k
    exact⟨k.1,k.2.1,fun i y hy=>bP h (by simpa[Fl.le] using hle')
     (fun s b hs=>by
      have:=hb (i :: s) b (by simpa using hs)
      refine⟨this.1,fun ho=>by simpa using this.2.1 (by simpa[sB,hg] using ho),fun ho=>this.2.2 (by simpa[sB,hg] using ho)⟩) (k.2.2 i y hy)⟩
   | sh=>
    rw[hf,hg] at hle'
    rw[hf] at k
    simp only[Rd] at k
    simp only[Fl.le,Fl.low] at hle'
    exact⟨k.1,k.2.1,fun i y hy=>AA1 (by simpa using hle') (zM h (k.2.2 i y hy))⟩
   | _=>rw[hf,hg] at hle';simp_all[Fl.le,Fl.low,zL]
  | sh=>
   have hn:∀ s,sB (.arr n t) g s=false:=fun s=>by simp[sB,hg]
   cases hf:f.base with
   | sh=>rw[hf] at k;exact zM h k
   | gone=>rw[hf,hg] at hle';simp[Fl.le] at hle'
   | ar e'=>
    rw[hf,hg] at hle'
    refine zM (S:=fun b=>(S b∨∃ s,β (p++s)=some b)) (fun b hs=>hs.elim (h b) (fun ⟨s,hs⟩=>⟨(hb s b hs).2.2 (hn s),(hb s b hs).1⟩)) ?_
    rw[hf] at k
    simp only[Fl.le] at hle'
    exact wY (f:=.ar e') (t:=.arr n t) (p:=p) (H:=H) (β:=β) (S:=S) (by simpa[Fl.whole] using hle') (fun _=>.inl) (fun s b hs=>.inr ⟨s,hs⟩)
     (by simp only[zN];exact⟨by simp[pN,Fl.pins],k⟩)
   | pr a b=>rw[hf] at k;exact zM h k
   | own a=>rw[hf] at k;exact zM h k
   | pin a b=>exact absurd hf zL
  | pr a b=>
   cases hf:f.base with
   | ar e'=>rw[hf,hg] at hle';simp[Fl.le] at hle'
   | gone=>rw[hf,hg] at hle';simp[Fl.le] at hle'
   | pin a b=>exact absurd hf zL
   | _=>rw[hf] at k;exact zM h k
  | own a=>
   cases hf:f.base with
   | ar e'=>rw[hf,hg] at hle';simp[Fl.le] at hle'
   | gone=>rw[hf,hg] at hle';simp[Fl.le] at hle'
   | pin a b=>exact absurd hf zL
   | _=>rw[hf] at k;exact zM h k
  | pin a b=>exact absurd hg zL
 | .pair a b,p,q,f,g,x,c,hle,hb,k=>by
  have hl:=zO k
  have hle':=gA hle
  simp only[zN] at k ⊢
  refine⟨k.1.le hle,?_⟩
  replace k:=k.2
  cases hg:g.base with
  | gone=>exact hl
  | pr e1 e2=>
   cases hf:f.base with
   | pr e1' e2'=>
    rw[hf,hg] at hle'
    rw[hf] at k
    simp only[Fl.le,Ae] at hle'
    exact⟨bP h hle'.1 (fun s b hs=>by
      have:=hb (0 :: s) b (by simpa using hs)
      refine⟨this.1,fun ho=>by simpa using this.2.1 (by simpa[sB,hg] using ho),fun ho=>this.2.2 (by simpa[sB,hg] using ho)⟩) k.1,
     bP h hle'.2 (fun s b hs=>by
      have:=hb (1 :: s) b (by simpa using hs)
      refine⟨this.1,fun ho=>by simpa using this.2.1 (by simpa[sB,hg] using ho),fun ho=>this.2.2 (by simpa[sB,hg] using ho)⟩) k.2⟩
   | sh=>
    rw[hf,hg] at hle'
    rw[hf] at k
    simp only[Rd] at k
    simp only[Fl.le,Fl.low,Ae] at hle'
    exact⟨AA1 hle'.1 (zM h k.1),AA1 hle'.2 (zM h k.2)⟩
   | _=>rw[hf,hg] at hle';simp_all[Fl.le,Fl.low,zL]
  | sh=>
   have hn:∀ s,sB (.pair a b) g s=false:=fun s=>by simp[sB,hg]
   cases hf:f.base with
   | sh=>rw[hf] at k;exact zM h k
   | gone=>rw[hf,hg] at hle';simp[Fl.le] at hle'
   | pr e1' e2'=>
    rw[hf,hg] at hle'
    refine zM (S:=fun b=>(S b∨∃ s,β (p++s)=some b)) (fun b hs=>hs.elim (h b) (fun ⟨s,hs⟩=>⟨(hb s b hs).2.2 (hn s),(hb s b hs).1⟩)) ?_
    rw[hf] at k
    simp only[Fl.le] at hle'
    exact wY (f:=.pr e1' e2') (t:=.pair a b) (p:=p) (H:=H) (β:=β) (S:=S) (by simpa[Fl.whole] using hle') (fun _=>.inl) (fun s b hs=>.inr ⟨s,hs⟩)
     (by simp only[zN];exact⟨by simp[pN,Fl.pins],k⟩)
   | ar e'=>rw[hf] at k;exact zM h k
   | own a=>rw[hf] at k;exact zM h k
   | pin a b=>exact absurd hf zL
  | ar e=>
   cases hf:f.base with
   | pr e1 e2=>rw[hf,hg] at hle';simp[Fl.le] at hle'
   | gone=>rw[hf,hg] at hle';simp[Fl.le] at hle'
   | pin a b=>exact absurd hf zL
   | _=>rw[hf] at k;exact zM h k
  | own e=>
   cases hf:f.base with
   | pr e1 e2=>rw[hf,hg] at hle';simp[Fl.le] at hle'
   | gone=>rw[hf,hg] at hle';simp[Fl.le] at hle'
   | pin a b=>exact absurd hf zL
   | _=>rw[hf] at k;exact zM h k
  | pin a b=>exact absurd hg zL
theorem yO {p:Key} {t:Ty} {x:t.D} {c:List Value}:zN S β H w p t .sh x c↔Rd S w t x c:=by
 cases t<;>simp[zN,Fl.base,pN,Fl.pins]
end
end Go.Rf

end
section
namespace Go.Rf
inductive Loc where
 | reg (c:List Value)
 | mem (b o:Nat)
def zD (w:World) (n:Nat):Loc→Option (List Value)
 | .reg c=>if c.length=n then some c else none
 | .mem b o=>match w.heap[b]? with
  | some (.cells cs _ _)=>if o+n≤cs.size then some (win cs.toList o n) else none
  | _=>none
def dO:Loc→Nat→Nat→Loc
 | .reg c,i,m=>.reg (win c i m)
 | .mem b o,i,_=>.mem b (o+i)
def xJ (w:World):Ty→Loc→PS→Option (Ty × Loc)
 | .pair a _,L,.fst=>some (a,dO L 0 a.size)
 | .pair a b,L,.snd=>some (b,dO L a.size b.size)
 | .arr n t,L,.idx i=>if i < n then some (t,dO L (i * t.size) t.size) else none
 | .ptr t,L,.der=>match zD w 1 L with
  | some [.pointer (some ⟨b,0,none⟩)]=>some (t,.mem b 0)
  | _=>none
 | .sl t,L,.elm i=>match zD w 1 L with
  | some [.slice (some ⟨b,o,none⟩) n _]=>if i < n then some (t,.mem b (o+i * t.size)) else none
  | _=>none
 | _,_,_=>none
def vF (w:World):Ty→Loc→List PS→Option (Ty × Loc)
 | t,L,[]=>some (t,L)
 | t,L,s :: p=>match xJ w t L s with
  | some (t',L')=>vF w t' L' p
  | none=>none
def xA:List PS→Key
 | []=>[]
 | .der :: p=>0 :: xA p
 | .fst :: p=>0 :: xA p
 | .snd :: p=>1 :: xA p
 | .idx i :: p=>i :: xA p
 | .elm i :: p=>i :: xA p
def inB:List PS→(t:Ty)→t.D→Prop
 | .fst :: p,.pair a _,x=>inB p a x.1
 | .snd :: p,.pair _ b,x=>inB p b x.2
 | .der :: p,.ptr t,x=>inB p t x
 | .idx i :: p,.arr n t,x=>i < n∧inB p t (Ak x i t.dflt)
 | .elm i :: p,.sl t,x=>i < Ac x∧inB p t (Ak x i t.dflt)
 | [],_,_=>True
 | _,_,_=>False
theorem pB {c:List Value} {o n i m:Nat} (h:i+m≤n):win (win c o n) i m=win c (o+i) m:=by
 simp only[win,List.drop_take,List.take_take,AS]
 congr 1
 omega
theorem oS {w:World} {n:Nat} {L:Loc} {c:List Value} (h:zD w n L=some c):c.length=n:=by
 cases L with
 | reg d=>simp only[zD] at h;split at h<;>simp_all
 | mem b o=>
  simp only[zD] at h
  split at h
  ·rename_i cs e fz _
   split at h
   ·rename_i hle
    simp at h;subst h
    exact eY (by simpa using hle)
   ·simp at h
  ·simp at h
theorem zU {w:World} {n i m:Nat} {L:Loc} {c:List Value} (h:zD w n L=some c) (hi:i+m≤n):zD w m (dO L i m)=some (win c i m):=by
 cases L with
 | reg d=>
  simp only[zD] at h;split at h
  ·simp at h;subst h;rename_i hl
   simp only[dO,zD]
   rw[Ar (eY (by omega))]
  ·simp at h
 | mem b o=>
  simp only[zD,dO] at h ⊢
  split at h
  ·split at h
   ·rename_i hle
    simp at h;subst h
    rw[Ar (by omega),pB hi]
   ·simp at h
  ·simp at h
theorem mQ:∀ {f:Fl},f.l=f.base.l
 | .pin _ f=>by simp only[Fl.l,Fl.base];exact mQ
 | .sh|.gone|.own _|.pr _ _|.ar _=>rfl
theorem mO:∀ {f:Fl},f.r=f.base.r
 | .pin _ f=>by simp only[Fl.r,Fl.base];exact mO
 | .sh|.gone|.own _|.pr _ _|.ar _=>rfl
theorem qF:∀ {f:Fl},f.e=f.base.e
 | .pin _ f=>by simp only[Fl.e,Fl.base];exact qF
 | .sh|.gone|.own _|.pr _ _|.ar _=>rfl
theorem cN:∀ {f:Fl},f.a=f.base.a
 | .pin _ f=>by simp only[Fl.a,Fl.base];exact cN
 | .sh|.gone|.own _|.pr _ _|.ar _=>rfl
section
variable {S:Nat→Prop} {β:Key→Option Nat} {H:Nat→Option (List Value)} {w:World}
theorem AX8 {p:Key} {t:Ty} {x:t.D} {c:List Value}:zN S β H w p t .gone x c↔c.length=t.size:=by
 cases t<;>simp[zN,Fl.base,pN,Fl.pins,Ty.size]
theorem qS {c:List Value} {n m:Nat} (h:c.length=n+m):c.drop n=win c n m:=by
 simp only[win];rw[List.take_of_length_le];simp;omega
theorem qO {c:List Value} {n:Nat}:c.take n=win c 0 n:=by simp[win]
theorem wJ {p:Key} {a b:Ty} {f:Fl} {x:(Ty.pair a b).D} {c:List Value} (h:zN S β H w p (.pair a b) f x c):
  zN S β H w (p++[0]) a f.l x.1 (c.take a.size)∧zN S β H w (p++[1]) b f.r x.2 (c.drop a.size):=by
 have hl:=zO h
 simp only[Ty.size] at hl
 have hg:zN S β H w (p++[0]) a .gone x.1 (c.take a.size)∧zN S β H w (p++[1]) b .gone x.2 (c.drop a.size):=
  ⟨AX8.2 (by simp;omega),AX8.2 (by simp;omega)⟩
 rw[mQ,mO]
 simp only[zN] at h
 replace h:=h.2
 cases hf:f.base with
 | pr g k=>rw[hf] at h;exact h
 | sh=>rw[hf] at h;simp only[Rd] at h;exact⟨yO.2 h.1,yO.2 h.2⟩
 | gone=>exact hg
 | own e=>exact hg
 | ar e=>exact hg
 | pin k e=>exact absurd hf zL
theorem sW {p:Key} {a b:Ty} {f g:Fl} {x:(Ty.pair a b).D} {c:List Value}:
  zN S β H w p (.pair a b) (.mkpr f g) x c↔zN S β H w (p++[0]) a f x.1 (c.take a.size)∧zN S β H w (p++[1]) b g x.2 (c.drop a.size):=by
 unfold Fl.mkpr
 split
 ·rw[yO,yO,yO];simp only[Rd]
 ·simp only[zN,Fl.base,pN,Fl.pins];simp
theorem aJ {p:Key} {n:Nat} {t:Ty} {f:Fl} {x:(Ty.arr n t).D} {c:List Value}:
  zN S β H w p (.arr n t) (.mkar f) x c↔Ac x=n∧c.length=n * t.size∧∀ (i:Nat) (y:t.D),nth x i=some y→zN S β H w (p++[i]) t f y (win c (i * t.size) t.size):=by
 unfold Fl.mkar
 split
 ·rw[yO];simp only[Rd,yO]
 ·simp only[zN,Fl.base,pN,Fl.pins];simp
theorem mU {p:Key} {n:Nat} {t:Ty} {f:Fl} {x:(Ty.arr n t).D} {c:List Value} (hw:f.a.base≠.gone) (h:zN S β H w p (.arr n t) f x c):
  Ac x=n∧c.length=n * t.size∧∀ (i:Nat) (y:t.D),nth x i=some y→zN S β H w (p++[i]) t f.a y (win c (i * t.size) t.size):=by
 rw[cN] at hw ⊢
 simp only[zN] at h
 replace h:=h.2
 cases hf:f.base with
 | ar g=>rw[hf] at h;exact h
 | sh=>rw[hf] at h;simp only[Rd] at h;exact⟨h.1,h.2.1,fun i y hy=>yO.2 (h.2.2 i y hy)⟩
 | gone=>rw[hf] at hw;simp[Fl.a,Fl.base] at hw
 | own e=>rw[hf] at hw;simp[Fl.a,Fl.base] at hw
 | pr _ _=>rw[hf] at hw;simp[Fl.a,Fl.base] at hw
 | pin k e=>exact absurd hf zL
theorem A3J {p:Key} {t:Ty} {f:Fl} {x:(Ty.ptr t).D} {c:List Value} (hw:f.e.base≠.gone) (h:zN S β H w p (.ptr t) f x c):
  ∃ b cs,c=[.pointer (some ⟨b,0,none⟩)]∧(S b∨β p=some b)∧Blk w b cs∧cs.size=t.size∧zN S β H w (p++[0]) t f.e x cs.toList:=by
 rw[qF] at hw ⊢
 simp only[zN] at h
 replace h:=h.2
 cases hf:f.base with
 | own g=>rw[hf] at h;obtain⟨b,cs,e,hs,ho,hz,h⟩:=h;exact⟨b,cs,e,.inr hs,ho.blk,hz,h⟩
 | sh=>rw[hf] at h;simp only[Rd] at h;obtain⟨b,cs,e,hs,ho,hz,h⟩:=h;exact⟨b,cs,e,.inl hs,ho,hz,yO.2 h⟩
 | gone=>rw[hf] at hw;simp[Fl.e,Fl.base] at hw
 | ar e=>rw[hf] at hw;simp[Fl.e,Fl.base] at hw
 | pr _ _=>rw[hf] at hw;simp[Fl.e,Fl.base] at hw
 | pin k e=>exact absurd hf zL
theorem Ao5 {p:Key} {t:Ty} {f:Fl} {x:(Ty.sl t).D} {c:List Value} (hw:f.e.base≠.gone) (h:zN S β H w p (.sl t) f x c) {i:Nat} {y:t.D} (hy:nth x i=some y):
  ∃ b o cs n cap,c=[.slice (some ⟨b,o,none⟩) n cap]∧i < n∧(S b∨β p=some b)∧Blk w b cs∧o+(i+1) * t.size≤cs.size∧zN S β H w (p++[i]) t f.e y (win cs.toList (o+i * t.size) t.size):=by
 have hi:i < Ac x:=by
  unfold nth at hy
  exact (A8.1 hy).1
 have hne:¬ (x=([]:List t.D)):=fun e=>by rw[e] at hi;simp at hi
 rw[qF] at hw ⊢
 simp only[zN] at h
 replace h:=h.2
 cases hf:f.base with
 | own g=>
  rw[hf] at h
  obtain⟨ad,cap,e,hl,h⟩:=h
  rcases h with h|⟨b,o,cs,rfl,hs,ho,hz,h⟩
  ·exact absurd (AP7 hl h) hne
  ·refine⟨b,o,cs,_,cap,e,hi,.inr hs,ho.blk,?_,h i y hy⟩
   have:(i+1) * t.size≤cap * t.size:=Af t.size (Ao hi hl)
   omega
 | sh=>
  rw[hf] at h;simp only[Rd] at h
  obtain⟨ad,cap,e,hl,h⟩:=h
  rcases h with h|⟨b,o,cs,rfl,hs,ho,hz,h⟩
  ·exact absurd h hne
  ·refine⟨b,o,cs,_,cap,e,hi,.inl hs,ho,?_,yO.2 (h i y hy)⟩
   have:(i+1) * t.size≤Ac x * t.size:=Af t.size hi
   omega
 | gone=>rw[hf] at hw;simp[Fl.e,Fl.base] at hw
 | ar e=>rw[hf] at hw;simp[Fl.e,Fl.base] at hw
 | pr _ _=>rw[hf] at hw;simp[Fl.e,Fl.base] at hw
 | pin k e=>exact absurd hf zL
theorem nQ:∀ {p:List PS} {t:Ty} {f:Fl} {x:t.D} {d:Dat},f.base=.gone→yJ p t f x=some d→d.f.base=.gone
 | [],_,_,_,_,hf,h=>by simp only[yJ,Aa] at h;subst h;exact hf
 | .fst :: p,.pair a _,f,x,d,hf,h=>by simp only[yJ] at h;rw[mQ,hf] at h;exact nQ rfl h
 | .snd :: p,.pair a _,f,x,d,hf,h=>by simp only[yJ] at h;rw[mO,hf] at h;exact nQ rfl h
 | .der :: p,.ptr _,f,x,d,hf,h=>by simp only[yJ] at h;rw[qF,hf] at h;exact nQ rfl h
 | .idx i :: p,.arr _ _,f,x,d,hf,h=>by simp only[yJ] at h;rw[cN,hf] at h;exact nQ rfl h
 | .elm i :: p,.sl _,f,x,d,hf,h=>by simp only[yJ] at h;rw[qF,hf] at h;exact nQ rfl h
theorem sZ {α:Type} {x:List α} {i:Nat} {z:α} (h:i < x.length):nth x i=some (x.getD i z):=by
 simp[nth,Ak,h]
theorem zJ {w:World} {b o n:Nat} {cs:Array Value} (h:Blk w b cs) (hz:o+n≤cs.size):zD w n (.mem b o)=some (win cs.toList o n):=by
 obtain⟨e,fz,h⟩:=h
 simp only[zD,h]
 rw[Ar hz]
theorem rO {w':World} (hS:∀ b,S b→w'.heap[b]?=w.heap[b]?):∀ {p:List PS} {t:Ty} {f:Fl} {x:t.D} {d:Dat} {k:Key} {L:Loc} {c:List Value},
  (∀ s b,β (k++s)=some b→w'.heap[b]?=w.heap[b]?) →
  yJ p t f x=some d→inB p t x→d.f.base≠.gone→zD w t.size L=some c→zD w' t.size L=some c→zN S β H w k t f x c →
  ∃ L' c',vF w t L p=some (d.t,L')∧vF w' t L p=some (d.t,L')∧zD w d.t.size L'=some c'∧zD w' d.t.size L'=some c'∧zN S β H w (k++xA p) d.t d.f d.x c'
 | [],t,f,x,d,k,L,c,_,hg,_,_,hc,hcc,h=>by
  simp only[yJ,Aa] at hg;subst hg
  exact⟨L,c,rfl,rfl,hc,hcc,by simpa[xA] using h⟩
 | .fst :: p,.pair a b,f,x,d,k,L,c,hk,hg,hb,hn,hc,hcc,h=>by
  have h':=(wJ h).1
  have hc':=zU (i:=0) (m:=a.size) hc (by simp[Ty.size])
  have hcc':=zU (i:=0) (m:=a.size) hcc (by simp[Ty.size])
  rw[qO] at h'
  obtain⟨L',c',h1,h2,h3,h4,h5⟩:=rO hS (fun s b hs=>hk (0 :: s) b (by simpa using hs)) (by simpa[yJ] using hg) (by simpa[inB] using hb) hn hc' hcc' h'
  exact⟨L',c',by simpa[vF,xJ] using h1,by simpa[vF,xJ] using h2,h3,h4,by simpa[xA] using h5⟩
 | .snd :: p,.pair a b,f,x,d,k,L,c,hk,hg,hb,hn,hc,hcc,h=>by
  have h':=(wJ h).2
  have hl:=zO h
  have hc':=zU (i:=a.size) (m:=b.size) hc (by simp[Ty.size])
  have hcc':=zU (i:=a.size) (m:=b.size) hcc (by simp[Ty.size])
  rw[qS (by simpa[Ty.size] using hl)] at h'
  obtain⟨L',c',h1,h2,h3,h4,h5⟩:=rO hS (fun s b hs=>hk (1 :: s) b (by simpa using hs)) (by simpa[yJ] using hg) (by simpa[inB] using hb) hn hc' hcc' h'
  exact⟨L',c',by simpa[vF,xJ] using h1,by simpa[vF,xJ] using h2,h3,h4,by simpa[xA] using h5⟩
 | .der :: p,.ptr t,f,x,d,k,L,c,hk,hg,hb,hn,hc,hcc,h=>by
  simp only[yJ] at hg
  have hw:f.e.base≠.gone:=fun e=>hn (nQ e hg)
  obtain⟨b,cs,rfl,hs,hB,hz,h'⟩:=A3J hw h
  have hsame:w'.heap[b]?=w.heap[b]?:=hs.elim (hS b) (fun hs=>hk [] b (by simpa using hs))
  have hc':=zJ (o:=0) (n:=t.size) hB (by omega)
  have hcc':=zJ (o:=0) (n:=t.size) (hB.same hsame) (by omega)
  have:win cs.toList 0 t.size=cs.toList:=by rw[← hz,← Ay];exact fG _
  rw[this] at hc' hcc'
  obtain⟨L',c',h1,h2,h3,h4,h5⟩:=rO hS (fun s b hs=>hk (0 :: s) b (by simpa using hs)) hg (by simpa[inB] using hb) hn hc' hcc' h'
  simp only[Ty.size] at hc hcc
  exact⟨L',c',by simp only[vF,xJ,hc];exact h1,by simp only[vF,xJ,hcc];exact h2,h3,h4,by simpa[xA] using h5⟩
 | .idx i :: p,.arr n t,f,x,d,k,L,c,hk,hg,hb,hn,hc,hcc,h=>by
  simp only[yJ] at hg
  simp only[inB] at hb
  have hw:f.a.base≠.gone:=fun e=>hn (nQ e hg)
  obtain⟨hx,hcl,h'⟩:=mU hw h
  have hlt:(i+1) * t.size≤n * t.size:=Af _ hb.1
  rw[Ap] at hlt
  have hc':=zU (i:=i * t.size) (m:=t.size) hc (by simp only[Ty.size];omega)
  have hcc':=zU (i:=i * t.size) (m:=t.size) hcc (by simp only[Ty.size];omega)
  obtain⟨L',c',h1,h2,h3,h4,h5⟩:=rO hS (fun s b hs=>hk (i :: s) b (by simpa using hs)) hg hb.2 hn hc' hcc' (h' i _ (sZ (by omega)))
  exact⟨L',c',by simp only[vF,xJ,hb.1,Au];exact h1,by simp only[vF,xJ,hb.1,Au];exact h2,h3,h4,by simpa[xA] using h5⟩
 | .elm i :: p,.sl t,f,x,d,k,L,c,hk,hg,hb,hn,hc,hcc,h=>by
  simp only[yJ] at hg
  simp only[inB] at hb
  have hw:f.e.base≠.gone:=fun e=>hn (nQ e hg)
  obtain⟨b,o,cs,m,cap,rfl,him,hs,hB,hz,h'⟩:=Ao5 hw h (sZ (z:=t.dflt) hb.1)
  have hsame:w'.heap[b]?=w.heap[b]?:=hs.elim (hS b) (fun hs=>hk [] b (by simpa using hs))
  rw[Ap] at hz
  have hc':=zJ (o:=o+i * t.size) (n:=t.size) hB (by omega)
  have hcc':=zJ (o:=o+i * t.size) (n:=t.size) (hB.same hsame) (by omega)
  obtain⟨L',c',h1,h2,h3,h4,h5⟩:=rO hS (fun s b hs=>hk (i :: s) b (by simpa using hs)) hg hb.2 hn hc' hcc' h'
  simp only[Ty.size] at hc hcc
  exact⟨L',c',by simp only[vF,xJ,hc,him,Au];exact h1,by simp only[vF,xJ,hcc,him,Au];exact h2,h3,h4,by simpa[xA] using h5⟩
theorem A2a {p:List PS} {t:Ty} {f:Fl} {x:t.D} {d:Dat} {k:Key} {L:Loc} {c:List Value}
  (hg:yJ p t f x=some d) (hb:inB p t x) (hn:d.f.base≠.gone) (hc:zD w t.size L=some c) (h:zN S β H w k t f x c):
  ∃ L' c',vF w t L p=some (d.t,L')∧zD w d.t.size L'=some c'∧zN S β H w (k++xA p) d.t d.f d.x c':=by
 obtain⟨L',c',h1,_,h3,_,h5⟩:=rO (w':=w) (fun _ _=>rfl) (fun _ _ _=>rfl) hg hb hn hc hc h
 exact⟨L',c',h1,h3,h5⟩
end
end Go.Rf

end
section
namespace Go.Rf
def iM (c:List Value) (o:Nat) (d:List Value):List Value:=c.take o++d++c.drop (o+d.length)
theorem jW {c d:List Value} {o:Nat} (h:o+d.length≤c.length):(iM c o d).length=c.length:=by
 simp[iM];omega
theorem jX {c d:List Value} {o:Nat} (h:o+d.length≤c.length) (i:Nat):
  (iM c o d)[i]?=if i < o then c[i]? else if i < o+d.length then d[i - o]? else c[i]?:=by
 unfold iM
 rw[A5,AT]
 simp only[List.length_take]
 rw[Nat.min_eq_left (by omega)]
 split
 ·rename_i hi;rw[AL hi]
 ·rename_i hi
  rw[AT]
  split
  ·rename_i h2;rw[Ar (by omega)]
  ·rename_i h2
   rw[Aq (by omega),AY]
   congr 1
   omega
theorem rL {c:List Value} {o n i:Nat}:(win c o n)[i]?=if i < n then c[o+i]? else none:=by
 unfold win
 by_cases h:i < n
 ·rw[Ar h,AL h,AY]
 ·rw[Aq h,List.getElem?_take_eq_none (by omega)]
theorem vG {c d:List Value} {o o' n:Nat} (h:o+d.length≤c.length) (hd:o'+n≤o∨o+d.length≤o'):
  win (iM c o d) o' n=win c o' n:=by
 apply AB
 intro i
 rw[rL,rL]
 split
 ·rw[jX h]
  rcases hd with hd|hd
  ·rw[Ar (by omega)]
  ·rw[Aq (by omega),Aq (by omega)]
 ·rfl
theorem mK {c d:List Value} {o:Nat} (h:o+d.length≤c.length):win (iM c o d) o d.length=d:=by
 apply AB
 intro i
 rw[rL]
 split
 ·rw[jX h,Aq (by omega),Ar (by omega)];congr 1;omega
 ·rw[AQ (by omega)]
structure Chg (w w':World) (b₀ o₀:Nat) (cd:List Value):Prop where
 other:∀ b,b≠b₀→w'.heap[b]?=w.heap[b]?
 this:∃ cs e fz cs',w.heap[b₀]?=some (.cells cs e fz)∧w'.heap[b₀]?=some (.cells cs' e fz)∧cs'.toList=iM cs.toList o₀ cd∧o₀+cd.length≤cs.size
 out:SameOut w w'
theorem Chg.size {w w':World} {b₀ o₀:Nat} {cd:List Value} {q:Bool} (h:Chg w w' b₀ o₀ cd) {cs:Array Value} (hb:AC1 q w b₀ cs):
  ∃ cs',AC1 q w' b₀ cs'∧cs'.size=cs.size∧cs'.toList=iM cs.toList o₀ cd∧o₀+cd.length≤cs.size:=by
 obtain⟨cs1,e,fz,cs',h1,h2,h3,h4⟩:=h.this
 obtain⟨e2,fz2,hb,hf⟩:=hb
 rw[h1] at hb
 simp only[Aa,Obj.cells.injEq] at hb
 obtain⟨rfl,rfl,rfl⟩:=hb
 have hs:cs'.size=cs1.size:=by
  have:=Am Ac h3
  rw[jW (by simpa using h4)] at this
  simpa using this
 exact⟨cs',⟨e,fz,h2,by rw[hs];exact hf.1,hf.2⟩,hs,h3,h4⟩
def yV:Key→Key→List PS→Key
 | _,ko,[]=>ko
 | k,ko,.fst :: p=>yV (k++[0]) ko p
 | k,ko,.snd :: p=>yV (k++[1]) ko p
 | k,ko,.idx i :: p=>yV (k++[i]) ko p
 | k,_,.der :: p=>yV (k++[0]) k p
 | k,_,.elm i :: p=>yV (k++[i]) k p
theorem tY:∀ {p:List PS} {k ko:Key},yV k ko p=ko∨∃ s,yV k ko p=k++s
 | [],_,_=>.inl rfl
 | .fst :: p,k,ko=>by simp only[yV];rcases tY (p:=p) (k:=k++[0]) (ko:=ko) with h|⟨s,h⟩;exact .inl h;exact .inr ⟨0 :: s,by simpa using h⟩
 | .snd :: p,k,ko=>by simp only[yV];rcases tY (p:=p) (k:=k++[1]) (ko:=ko) with h|⟨s,h⟩;exact .inl h;exact .inr ⟨1 :: s,by simpa using h⟩
 | .idx i :: p,k,ko=>by simp only[yV];rcases tY (p:=p) (k:=k++[i]) (ko:=ko) with h|⟨s,h⟩;exact .inl h;exact .inr ⟨i :: s,by simpa using h⟩
 | .der :: p,k,ko=>by simp only[yV];rcases tY (p:=p) (k:=k++[0]) (ko:=k) with h|⟨s,h⟩;exact .inr ⟨[],by simpa using h⟩;exact .inr ⟨0 :: s,by simpa using h⟩
 | .elm i :: p,k,ko=>by simp only[yV];rcases tY (p:=p) (k:=k++[i]) (ko:=k) with h|⟨s,h⟩;exact .inr ⟨[],by simpa using h⟩;exact .inr ⟨i :: s,by simpa using h⟩
theorem rE:∀ {p:List PS} {k ko:Key},jumps p=true→∃ s,yV k ko p=k++s
 | [],_,_,h=>by simp[jumps] at h
 | .fst :: p,k,ko,h=>by
  simp only[jumps,PS.jumps,As] at h;simp only[yV]
  obtain⟨s,hs⟩:=rE (k:=k++[0]) (ko:=ko) h;exact⟨0 :: s,by simpa using hs⟩
 | .snd :: p,k,ko,h=>by
  simp only[jumps,PS.jumps,As] at h;simp only[yV]
  obtain⟨s,hs⟩:=rE (k:=k++[1]) (ko:=ko) h;exact⟨1 :: s,by simpa using hs⟩
 | .idx i :: p,k,ko,h=>by
  simp only[jumps,PS.jumps,As] at h;simp only[yV]
  obtain⟨s,hs⟩:=rE (k:=k++[i]) (ko:=ko) h;exact⟨i :: s,by simpa using hs⟩
 | .der :: p,k,ko,_=>by
  simp only[yV]
  rcases tY (p:=p) (k:=k++[0]) (ko:=k) with h|⟨s,h⟩
  ·exact⟨[],by simpa using h⟩
  ·exact⟨0 :: s,by simpa using h⟩
 | .elm i :: p,k,ko,_=>by
  simp only[yV]
  rcases tY (p:=p) (k:=k++[i]) (ko:=k) with h|⟨s,h⟩
  ·exact⟨[],by simpa using h⟩
  ·exact⟨i :: s,by simpa using h⟩
theorem pC {w:World}:∀ {p:List PS} {t t':Ty} {L L':Loc},jumps p=false→vF w t L p=some (t',L') →
  match L with
  | .reg _=>∃ c,L'=.reg c
  | .mem b o=>∃ o',L'=.mem b o'∧o≤o'∧o'+t'.size≤o+t.size
 | [],t,t',L,L',_,h=>by
  simp only[vF,Aa,Ab] at h
  obtain⟨rfl,rfl⟩:=h
  cases L
  ·exact⟨_,rfl⟩
  ·exact⟨_,rfl,Ai _,Ai _⟩
 | .der :: p,_,_,_,_,h,_|.elm _ :: p,_,_,_,_,h,_=>by simp[jumps,PS.jumps] at h
 | .fst :: p,.pair a b,t',L,L',hj,h=>by
  simp only[jumps,PS.jumps,As] at hj
  simp only[vF,xJ] at h
  have:=pC hj h
  cases L with
  | reg c=>simpa[dO] using this
  | mem bl o=>simp only[dO] at this;obtain⟨o',e,h1,h2⟩:=this;exact⟨o',e,by omega,by simp only[Ty.size];omega⟩
 | .snd :: p,.pair a b,t',L,L',hj,h=>by
  simp only[jumps,PS.jumps,As] at hj
  simp only[vF,xJ] at h
  have:=pC hj h
  cases L with
  | reg c=>simpa[dO] using this
  | mem bl o=>simp only[dO] at this;obtain⟨o',e,h1,h2⟩:=this;exact⟨o',e,by omega,by simp only[Ty.size];omega⟩
 | .idx i :: p,.arr n t,t',L,L',hj,h=>by
  simp only[jumps,PS.jumps,As] at hj
  simp only[vF,xJ] at h
  by_cases hi:i < n
  ·simp only[hi,Au] at h
   have:=pC hj h
   have hm:(i+1) * t.size≤n * t.size:=Af _ hi
   rw[Ap] at hm
   cases L with
   | reg c=>simpa[dO] using this
   | mem bl o=>simp only[dO] at this;obtain⟨o',e,h1,h2⟩:=this;exact⟨o',e,by omega,by simp only[Ty.size];omega⟩
  ·simp[hi] at h
 | .fst :: p,.int _,_,_,_,_,h|.fst :: p,.bool,_,_,_,_,h|.fst :: p,.str,_,_,_,_,h|.fst :: p,.fn,_,_,_,_,h|.fst :: p,.unit,_,_,_,_,h
 | .fst :: p,.sl _,_,_,_,_,h|.fst :: p,.ptr _,_,_,_,_,h|.fst :: p,.arr _ _,_,_,_,_,h
 | .snd :: p,.int _,_,_,_,_,h|.snd :: p,.bool,_,_,_,_,h|.snd :: p,.str,_,_,_,_,h|.snd :: p,.fn,_,_,_,_,h|.snd :: p,.unit,_,_,_,_,h
 | .snd :: p,.sl _,_,_,_,_,h|.snd :: p,.ptr _,_,_,_,_,h|.snd :: p,.arr _ _,_,_,_,_,h
 | .idx _ :: p,.int _,_,_,_,_,h|.idx _ :: p,.bool,_,_,_,_,h|.idx _ :: p,.str,_,_,_,_,h|.idx _ :: p,.fn,_,_,_,_,h|.idx _ :: p,.unit,_,_,_,_,h
 | .idx _ :: p,.sl _,_,_,_,_,h|.idx _ :: p,.ptr _,_,_,_,_,h|.idx _ :: p,.pair _ _,_,_,_,_,h=>by simp[vF,xJ] at h
section
variable {S:Nat→Prop} {β β':Key→Option Nat} {H:Nat→Option (List Value)} {w w':World}
theorem wX {a b:Ty} {x:a.D} {y:b.D} (h:oV a b x=some y):∃ e:a=b,y=e▸x:=by
 unfold oV at h
 split at h
 ·rename_i e;simp at h;exact⟨e,h.symm⟩
 ·simp at h
theorem A2o {k:Key} {i j:Nat} {s u:Key} (h:i≠j):¬ (k++i :: u) <+: (k++j :: s):=by
 rw[List.prefix_append_right_inj]
 simp[Al,h]
theorem Ao4 {α:Type} {x:List α} {i j:Nat} {y z:α} (h:nth (x.set i y) j=some z):(j=i∧i < x.length∧z=y)∨(j≠i∧nth x j=some z):=by
 unfold nth at h ⊢
 rw[Bb] at h
 split at h
 ·rename_i e
  split at h
  ·rename_i hl
   simp at h;exact .inl ⟨e.symm,hl,h.symm⟩
  ·simp at h
 ·rename_i e;exact .inr ⟨fun e'=>e e'.symm,h⟩
theorem A6r {p:List PS} {f g:Fl} {c:List Value} (h:pN H f c) (hg:pN H g c) (hj:jumps p=true):pN H (Fl.keep p f g) c:=by
 unfold Fl.keep
 split
 ·rename_i k f'
  rw[Ar hj]
  cases g with
  | pin j e=>exact hg
  | _=>intro i hi;simp only[Fl.mkpin,Fl.pins,AF,Bg,or_false] at hi;subst hi;exact h i (by simp[Fl.pins])
 ·exact hg
theorem A5Q {p:List PS} {f g:Fl} (hj:jumps p=false):Fl.keep p f g=g:=by
 unfold Fl.keep
 split
 ·rw[Aq (by simp[hj])]
 ·rfl
theorem nX {k:Key} {t:Ty} {p:List PS} {f g:Fl} {x:t.D} {c:List Value} (hp:jumps p=true→pN H f c) (h:zN S β H w k t g x c):zN S β H w k t (Fl.keep p f g) x c:=by
 cases hj:jumps p with
 | false=>rw[A5Q hj];exact h
 | true=>
  have hb:(Fl.keep p f g).base=g.base:=by
   unfold Fl.keep
   split
   ·rw[Ar hj];cases g<;>rfl
   ·rfl
  cases t<;>simp only[zN] at h ⊢<;>rw[hb]<;>exact⟨A6r (hp hj) h.1 hj,h.2⟩
theorem vC {k:Key} {t:Ty} {f:Fl} {x:t.D} {c:List Value} (h:zN S β H w k t f x c):pN H f c:=by
 cases t<;>simp only[zN] at h<;>exact h.1
theorem mV {b o n:Nat} {c:List Value} {cs:Array Value} (h:zD w n (.mem b o)=some c) (hB:Blk w b cs):c=win cs.toList o n∧o+n≤cs.size:=by
 obtain⟨e,fz,hB⟩:=hB
 simp only[zD,hB] at h
 split at h
 ·rename_i hle;simp at h;exact⟨h.symm,hle⟩
 ·simp at h
theorem AX9 {n:Nat} {c cr:List Value} (h:zD w n (.reg cr)=some c):c=cr∧cr.length=n:=by
 simp only[zD] at h
 split at h
 ·rename_i hl;simp at h;exact⟨h.symm,hl⟩
 ·simp at h
theorem Al3 {b₀ o₀:Nat} {cd:List Value} {k q ko:Key} {t:Ty} {f:Fl} {x:t.D} {c:List Value} (hS:¬ S b₀) (hchg:Chg w w' b₀ o₀ cd)
  (hne:∀ s,ko≠k++s) (h0:∀ key,β key=some b₀→key=ko) (hβ:∀ s,β' (k++s)=β (k++s))
  (h:zN S β H w k t f x c) (_:q=q):zN S β' H w' k t f x c:=
 zI (fun b hb=>⟨hb,hchg.other b (fun e=>hS (e▸hb))⟩) (fun s bl hb=>⟨by rw[hβ];exact hb,hchg.other bl (fun e=>by
  subst e;exact hne s (h0 _ hb).symm)⟩) h
theorem AB2:∀ {p:List PS} {t:Ty} {f:Fl} {x:t.D} {d:Dat} {f2:Fl} {x2:t.D} {k ko:Key} {L:Loc} {c cd:List Value} {t':Ty} {b₀ o₀:Nat},
  oE p t f x d=some (f2,x2)→inB p t x→zD w t.size L=some c→zN S β H w k t f x c →
  vF w t L p=some (t',.mem b₀ o₀)→t'.size=d.t.size →
  (∀ b o,L=.mem b o→β ko=some b∧∃ q cs,AC1 q w b cs)→ko.length < k.length →
  (∀ key,¬ (k++xA p) <+: key→β' key=β key) →
  (∀ key,β key=some b₀→key=yV k ko p)→(∀ key,β' key=some b₀→key=yV k ko p)→¬ S b₀ →
  Chg w w' b₀ o₀ cd→zN S β' H w (k++xA p) d.t d.f d.x cd →
  ∃ c2,zD w' t.size L=some c2∧(jumps p=true→c2=c)∧zN S β' H w' k t f2 x2 c2
 | [],t,f,x,d,f2,x2,k,ko,L,c,cd,t',b₀,o₀,hm,_,hc,hv,hw,hsz,hL,hko,hβ,h0,h0',hS,hchg,hd=>by
  simp only[oE] at hm
  cases hcast:oV d.t t d.x with
  | none=>simp[hcast] at hm
  | some y=>
   simp only[hcast,Av,Aa,Ab] at hm
   obtain⟨rfl,rfl⟩:=hm
   obtain⟨rfl,rfl⟩:=wX hcast
   simp only[vF,Aa,Ab] at hw
   obtain⟨rfl,rfl⟩:=hw
   have hl:=zO hd
   obtain⟨hk,q0,cs,hB⟩:=hL _ _ rfl
   obtain⟨cs',hB',hz,hcs,hle⟩:=hchg.size hB
   refine⟨cd,?_,by simp[jumps],?_⟩
   ·rw[zJ hB'.blk (by rw[hz,← hl];exact hle),hcs,← hl,mK (by simpa using hle)]
   ·simp only[xA,A9] at hd
    refine zI (fun b hb=>⟨hb,hchg.other b (fun e=>hS (e▸hb))⟩) (fun s b hb=>⟨hb,hchg.other b (fun e=>?_)⟩) hd
    subst e
    have:=h0' _ hb
    simp only[yV] at this
    have:=Am Ac this
    simp at this
    omega
 | .fst :: p,.pair a b,f,x,d,f2,x2,k,ko,L,c,cd,t',b₀,o₀,hm,hi,hc,hv,hw,hsz,hL,hko,hβ,h0,h0',hS,hchg,hd=>by
  simp only[oE] at hm
  cases hm':oE p a f.l x.1 d with
  | none=>simp[hm'] at hm
  | some y=>
   simp only[hm',Av,Aa,Ab] at hm
   obtain⟨rfl,rfl⟩:=hm
   have hparts:=wJ hv
   have hlen:=oS hc
   simp only[Ty.size] at hlen
   have hc':=zU (i:=0) (m:=a.size) hc (by simp[Ty.size])
   have hv1:=hparts.1
   rw[qO] at hv1
   simp only[vF,xJ] at hw
   have hL':∀ bl o,dO L 0 a.size=.mem bl o→β ko=some bl∧∃ q cs,AC1 q w bl cs:=fun bl o e=>by
    cases L with
    | reg _=>simp[dO] at e
    | mem b2 o2=>simp only[dO,Loc.mem.injEq] at e;rw[← e.1];exact hL _ _ rfl
   have hkey:(k++[0])++xA p=k++xA (.fst :: p):=by simp[xA]
   obtain⟨c2,g1,g2,g3⟩:=AB2 (k:=k++[0]) (ko:=ko) hm' (by simpa[inB] using hi) hc' hv1 hw hsz hL' (by simp;omega) (by rw[hkey];exact hβ)
    (by simpa[yV] using h0) (by simpa[yV] using h0') hS hchg (by rw[hkey];exact hd)
   have hside:zN S β' H w' (k++[1]) b f.r x.2 (c.drop a.size):=by
    refine zI (fun b hb=>⟨hb,hchg.other b (fun e=>hS (e▸hb))⟩) (fun s bl hb=>?_) hparts.2
    have hnot:¬ (k++xA (.fst :: p)) <+: (k++[1]++s):=by
     simp only[xA,A5,Ad,Aw];exact A2o (by decide)
    refine⟨by rw[hβ _ hnot];exact hb,hchg.other bl (fun e=>?_)⟩
    subst e
    have hk0:=h0 _ hb
    simp only[yV] at hk0
    rcases tY (p:=p) (k:=k++[0]) (ko:=ko) with he|⟨u,he⟩
    ·rw[he] at hk0
     have:=Am Ac hk0
     simp at this;omega
    ·rw[he] at hk0
     simp at hk0
   cases L with
   | reg cr=>
    simp only[zD] at hc
    have hcr:cr.length=(Ty.pair a b).size∧c=cr:=by
     split at hc
     ·rename_i hl;simp at hc;exact⟨hl,hc.symm⟩
     ·simp at hc
    obtain⟨hcl,rfl⟩:=hcr
    have hj:jumps p=true:=by
     cases hj:jumps p with
     | true=>rfl
     | false=>have:=pC hj hw;simp[dO] at this
    have e2:=g2 hj
    refine⟨c,by simp[zD,hcl],fun _=>rfl,?_⟩
    refine nX (fun _=>vC hv) (sW.2 ⟨?_,hside⟩)
    rw[qO,← e2];exact g3
   | mem bl ol=>
    obtain⟨hk,q0,cs,hB⟩:=hL _ _ rfl
    have hcw:c=win cs.toList ol (a.size+b.size)∧ol+(a.size+b.size)≤cs.size:=mV hc hB.blk
    cases hj:jumps p with
    | true=>
     have hne:bl≠b₀:=fun e=>by
      subst e
      have:=h0 _ hk
      simp only[yV] at this
      obtain⟨s,hs⟩:=rE (k:=k++[0]) (ko:=ko) hj
      rw[hs] at this
      have:=Am Ac this
      simp at this;omega
     have hB':=hB.same (hchg.other bl hne)
     have e2:=g2 hj
     refine⟨c,?_,fun _=>rfl,?_⟩
     ·rw[zJ hB'.blk (by simp only[Ty.size];exact hcw.2),hcw.1];rfl
     ·refine nX (fun _=>vC hv) (sW.2 ⟨?_,hside⟩)
      rw[qO,← e2];exact g3
    | false=>
     have hfl:=pC hj hw
     simp only[dO] at hfl
     obtain⟨o',e,ho1,ho2⟩:=hfl
     simp only[Loc.mem.injEq] at e
     obtain⟨rfl,rfl⟩:=e
     have hdl:=zO hd
     obtain⟨cs',hB',hz,hcs,hle⟩:=hchg.size hB
     refine⟨win cs'.toList ol (a.size+b.size),?_,by simp[jumps,PS.jumps,hj],?_⟩
     ·rw[zJ hB'.blk (by simp only[Ty.size];omega)];rfl
     ·refine nX (by simp[hj]) (sW.2 ⟨?_,?_⟩)
      ·rw[qO,pB (by omega)]
       simp only[dO] at g1
       rw[zJ hB'.blk (by omega)] at g1
       simp only[Aa] at g1
       rw[g1];exact g3
      ·have:(win cs'.toList ol (a.size+b.size)).drop a.size=c.drop a.size:=by
        rw[hcw.1,qS (m:=b.size) (eY (by simp;omega)),qS (m:=b.size) (eY (by simp;omega)),pB (by omega),pB (by omega),hcs]
        exact vG (by simpa using hle) (.inr (by omega))
       rw[this];exact hside
 | .snd :: p,.pair a b,f,x,d,f2,x2,k,ko,L,c,cd,t',b₀,o₀,hm,hi,hc,hv,hw,hsz,hL,hko,hβ,h0,h0',hS,hchg,hd=>by
  simp only[oE] at hm
  cases hm':oE p b f.r x.2 d with
  | none=>simp[hm'] at hm
  | some y=>
   simp only[hm',Av,Aa,Ab] at hm
   obtain⟨rfl,rfl⟩:=hm
   have hparts:=wJ hv
   have hlen:=oS hc
   simp only[Ty.size] at hlen
   have hc':=zU (i:=a.size) (m:=b.size) hc (by simp[Ty.size])
   have hv1:=hparts.2
   rw[qS hlen] at hv1
   simp only[vF,xJ] at hw
   have hL':∀ bl o,dO L a.size b.size=.mem bl o→β ko=some bl∧∃ q cs,AC1 q w bl cs:=fun bl o e=>by
    cases L with
    | reg _=>simp[dO] at e
    | mem b2 o2=>simp only[dO,Loc.mem.injEq] at e;rw[← e.1];exact hL _ _ rfl
   have hkey:(k++[1])++xA p=k++xA (.snd :: p):=by simp[xA]
   obtain⟨c2,g1,g2,g3⟩:=AB2 (k:=k++[1]) (ko:=ko) hm' (by simpa[inB] using hi) hc' hv1 hw hsz hL' (by simp;omega) (by rw[hkey];exact hβ)
    (by simpa[yV] using h0) (by simpa[yV] using h0') hS hchg (by rw[hkey];exact hd)
   have hside:zN S β' H w' (k++[0]) a f.l x.1 (c.take a.size):=by
    refine zI (fun b hb=>⟨hb,hchg.other b (fun e=>hS (e▸hb))⟩) (fun s bl hb=>?_) hparts.1
    have hnot:¬ (k++xA (.snd :: p)) <+: (k++[0]++s):=by
     simp only[xA,A5,Ad,Aw];exact A2o (by decide)
    refine⟨by rw[hβ _ hnot];exact hb,hchg.other bl (fun e=>?_)⟩
    subst e
    have hk0:=h0 _ hb
    simp only[yV] at hk0
    rcases tY (p:=p) (k:=k++[1]) (ko:=ko) with he|⟨u,he⟩
    ·rw[he] at hk0
     have:=Am Ac hk0
     simp at this;omega
    ·rw[he] at hk0
     simp at hk0
   cases L with
   | reg cr=>
    simp only[zD] at hc
    have hcr:cr.length=(Ty.pair a b).size∧c=cr:=by
     split at hc
     ·rename_i hl;simp at hc;exact⟨hl,hc.symm⟩
     ·simp at hc
    obtain⟨hcl,rfl⟩:=hcr
    have hj:jumps p=true:=by
     cases hj:jumps p with
     | true=>rfl
     | false=>have:=pC hj hw;simp[dO] at this
    have e2:=g2 hj
    refine⟨c,by simp[zD,hcl],fun _=>rfl,?_⟩
    refine nX (fun _=>vC hv) (sW.2 ⟨hside,?_⟩)
    rw[qS hlen,← e2];exact g3
   | mem bl ol=>
    obtain⟨hk,q0,cs,hB⟩:=hL _ _ rfl
    have hcw:c=win cs.toList ol (a.size+b.size)∧ol+(a.size+b.size)≤cs.size:=mV hc hB.blk
    cases hj:jumps p with
    | true=>
     have hne:bl≠b₀:=fun e=>by
      subst e
      have:=h0 _ hk
      simp only[yV] at this
      obtain⟨s,hs⟩:=rE (k:=k++[1]) (ko:=ko) hj
      rw[hs] at this
      have:=Am Ac this
      simp at this;omega
     have hB':=hB.same (hchg.other bl hne)
     have e2:=g2 hj
     refine⟨c,?_,fun _=>rfl,?_⟩
     ·rw[zJ hB'.blk (by simp only[Ty.size];exact hcw.2),hcw.1];rfl
     ·refine nX (fun _=>vC hv) (sW.2 ⟨hside,?_⟩)
      rw[qS hlen,← e2];exact g3
    | false=>
     have hfl:=pC hj hw
     simp only[dO] at hfl
     obtain⟨o',e,ho1,ho2⟩:=hfl
     simp only[Loc.mem.injEq] at e
     obtain⟨rfl,rfl⟩:=e
     have hdl:=zO hd
     obtain⟨cs',hB',hz,hcs,hle⟩:=hchg.size hB
     refine⟨win cs'.toList ol (a.size+b.size),?_,by simp[jumps,PS.jumps,hj],?_⟩
     ·rw[zJ hB'.blk (by simp only[Ty.size];omega)];rfl
     ·refine nX (by simp[hj]) (sW.2 ⟨?_,?_⟩)
      ·have:(win cs'.toList ol (a.size+b.size)).take a.size=c.take a.size:=by
        rw[hcw.1,qO,qO,pB (by omega),pB (by omega),hcs]
        exact vG (by simpa using hle) (.inl (by omega))
       rw[this];exact hside
      ·rw[qS (m:=b.size) (eY (by simp;omega)),pB (by omega)]
       simp only[dO] at g1
       rw[zJ hB'.blk (by omega)] at g1
       simp only[Aa] at g1
       rw[g1];exact g3
 | .idx i :: p,.arr n t,f,x,d,f2,x2,k,ko,L,c,cd,t',b₀,o₀,hm,hi,hc,hv,hw,hsz,hL,hko,hβ,h0,h0',hS,hchg,hd=>by
  simp only[oE] at hm
  simp only[inB] at hi
  obtain⟨hi,hi'⟩:=hi
  cases hm':oE p t f.a (Ak x i t.dflt) d with
  | none=>simp[hm'] at hm
  | some y=>
   simp only[hm',AM] at hm
   split at hm
   ·rename_i hwh
    simp only[Ae,Aj] at hwh
    obtain⟨hwh,hye⟩:=hwh
    simp only[Aa,Ab] at hm
    obtain⟨rfl,rfl⟩:=hm
    have hne:f.a.base≠.gone:=fun e=>by have:=tQ hwh;rw[e] at this;simp[Fl.whole] at this
    obtain⟨hx,hcl,hel⟩:=mU hne hv
    have hmul:(i+1) * t.size≤n * t.size:=Af _ hi
    rw[Ap] at hmul
    have hc':=zU (i:=i * t.size) (m:=t.size) hc (by simp only[Ty.size];omega)
    have hv1:=hel i _ (sZ (z:=t.dflt) (by omega))
    simp only[vF,xJ,hi,Au] at hw
    have hL':∀ bl o,dO L (i * t.size) t.size=.mem bl o→β ko=some bl∧∃ q cs,AC1 q w bl cs:=fun bl o e=>by
     cases L with
     | reg _=>simp[dO] at e
     | mem b2 o2=>simp only[dO,Loc.mem.injEq] at e;rw[← e.1];exact hL _ _ rfl
    have hkey:(k++[i])++xA p=k++xA (.idx i :: p):=by simp[xA]
    obtain⟨c2,g1,g2,g3⟩:=AB2 (k:=k++[i]) (ko:=ko) hm' hi' hc' hv1 hw hsz hL' (by simp;omega) (by rw[hkey];exact hβ)
     (by simpa[yV] using h0) (by simpa[yV] using h0') hS hchg (by rw[hkey];exact hd)
    have hko2:∀ j s,j≠i→yV k ko (.idx i :: p)≠k++[j]++s:=fun j s hj e=>by
     simp only[yV] at e
     rcases tY (p:=p) (k:=k++[i]) (ko:=ko) with he|⟨u,he⟩
     ·rw[he] at e;have:=Am Ac e;simp at this;omega
     ·rw[he] at e;simp at e;exact hj e.1.symm
    have hside:∀ j z,j≠i→nth x j=some z→zN S β' H w' (k++[j]) t f.a z (win c (j * t.size) t.size):=fun j z hj hz=>
     Al3 (q:=[]) hS hchg (fun s=>hko2 j s hj) h0 (fun s=>hβ _ (by simp only[xA,A5,Ad,Aw];exact A2o (fun e=>hj e.symm))) (hel j z hz) rfl
    have hset:∀ (c':List Value),c'.length=n * t.size→win c' (i * t.size) t.size=c2→(∀ j,j≠i→j < n→win c' (j * t.size) t.size=win c (j * t.size) t.size) →
      zN S β' H w' k (.arr n t) (.mkar f.a) (AJ x i y.2) c':=fun c' hl' h1 h2=>by
     refine aJ.2 ⟨(Bk (as:=(x:List t.D))).trans hx,hl',fun j z hz=>?_⟩
     rcases Ao4 hz with ⟨rfl,_,rfl⟩| ⟨hj,hz⟩
     ·rw[h1,← hye];exact g3
     ·rw[h2 j hj (by have:=(A8.1 hz).1;omega)];exact hside j z hj hz
    cases L with
    | reg cr=>
     obtain⟨rfl,hcl'⟩:=AX9 hc
     have hj:jumps p=true:=by
      cases hj:jumps p with
      | true=>rfl
      | false=>have:=pC hj hw;simp[dO] at this
     exact⟨c,by simp[zD,hcl'],fun _=>rfl,nX (fun _=>vC hv) (hset c hcl (g2 hj).symm (fun _ _ _=>rfl))⟩
    | mem bl ol=>
     obtain⟨hk,q0,cs,hB⟩:=hL _ _ rfl
     have hcw:=mV hc hB.blk
     simp only[Ty.size] at hcw
     cases hj:jumps p with
     | true=>
      have hnb:bl≠b₀:=fun e=>by
       subst e
       have:=h0 _ hk
       simp only[yV] at this
       obtain⟨s,hs⟩:=rE (k:=k++[i]) (ko:=ko) hj
       rw[hs] at this
       have:=Am Ac this
       simp at this;omega
      have hB':=hB.same (hchg.other bl hnb)
      refine⟨c,?_,fun _=>rfl,nX (fun _=>vC hv) (hset c hcl (g2 hj).symm (fun _ _ _=>rfl))⟩
      rw[zJ hB'.blk (by simp only[Ty.size];exact hcw.2),hcw.1];rfl
     | false=>
      have hfl:=pC hj hw
      simp only[dO] at hfl
      obtain⟨o',e,ho1,ho2⟩:=hfl
      simp only[Loc.mem.injEq] at e
      obtain⟨rfl,rfl⟩:=e
      have hdl:=zO hd
      obtain⟨cs',hB',hz,hcs,hle⟩:=hchg.size hB
      refine⟨win cs'.toList ol (n * t.size),?_,by simp[jumps,PS.jumps,hj],nX (by simp[hj]) (hset _ (eY (by simp;omega)) ?_ ?_)⟩
      ·rw[zJ hB'.blk (by simp only[Ty.size];omega)];rfl
      ·rw[pB (by omega)]
       simp only[dO] at g1
       rw[zJ hB'.blk (by omega)] at g1
       simpa using g1
      ·intro j hj' hjn
       have hmj:(j+1) * t.size≤n * t.size:=Af _ hjn
       rw[Ap] at hmj
       rw[hcw.1,pB (by omega),pB (by omega),hcs]
       refine vG (by simpa using hle) ?_
       rcases AZ hj' with h|h
       ·have:(j+1) * t.size≤i * t.size:=Af _ h
        rw[Ap] at this
        exact .inl (by omega)
       ·have:(i+1) * t.size≤j * t.size:=Af _ h
        rw[Ap] at this
        exact .inr (by omega)
   ·simp at hm
 | .der :: p,.ptr t,f,x,d,f2,x2,k,ko,L,c,cd,t',b₀,o₀,hm,hi,hc,hv,hw,hsz,hL,hko,hβ,h0,h0',hS,hchg,hd=>by
  have main:∀ (e:Fl) (y:Fl × t.D),f.base=.own e→oE p t e x d=some y→x2=y.2→f2.base=.own y.1→pN H f2 c →
    ∃ c2,zD w' (Ty.ptr t).size L=some c2∧(jumps (.der :: p)=true→c2=c)∧zN S β' H w' k (.ptr t) f2 x2 c2:=by
   intro e y hf hm' hx2 hf2 hpins
   have hv':=hv
   simp only[zN,hf] at hv'
   obtain⟨_,b,cs,rfl,hkb,hB,hz,hv1⟩:=hv'
   have hc':=zJ (o:=0) (n:=t.size) hB.blk (by omega)
   have hwin:win cs.toList 0 t.size=cs.toList:=by rw[← hz,← Ay];exact fG _
   rw[hwin] at hc'
   simp only[Ty.size] at hc
   simp only[vF,xJ,hc] at hw
   have hkey:(k++[0])++xA p=k++xA (.der :: p):=by simp[xA]
   obtain⟨c2,g1,g2,g3⟩:=AB2 (k:=k++[0]) (ko:=k) hm' (by simpa[inB] using hi) hc' hv1 hw hsz
    (fun bl o e=>by simp only[Loc.mem.injEq] at e;rw[← e.1];exact⟨hkb,_,cs,hB⟩) (by simp) (by rw[hkey];exact hβ)
    (by simpa[yV] using h0) (by simpa[yV] using h0') hS hchg (by rw[hkey];exact hd)
   have hβk:β' k=some b:=by
    rw[hβ k (fun hp=>by
     have:=hp.length_le
     simp[xA] at this<;>omega)]
    exact hkb
   have hLc:zD w' 1 L=some [.pointer (some ⟨b,0,none⟩)]:=by
    cases L with
    | reg cr=>exact hc
    | mem bl ol=>
     obtain⟨hk,q0,csL,hBL⟩:=hL _ _ rfl
     have hcw:=mV hc hBL.blk
     have hnb:bl≠b₀:=fun e=>by
      subst e
      have:=h0 _ hk
      obtain⟨s,hs⟩:=rE (p:=.der :: p) (k:=k) (ko:=ko) (by simp[jumps,PS.jumps])
      rw[hs] at this
      have:=Am Ac this
      simp at this;omega
     rw[zJ (hBL.same (hchg.other bl hnb)).blk hcw.2,← hcw.1]
   have hnew:∃ cs',AC1 false w' b cs'∧cs'.size=cs.size:=by
    by_cases e:b=b₀
    ·subst e;obtain⟨cs',h1,h2,_⟩:=hchg.size hB;exact⟨cs',h1,h2⟩
    ·exact⟨cs,hB.same (hchg.other b e),rfl⟩
   obtain⟨cs',hB',hz'⟩:=hnew
   refine⟨_,by simpa[Ty.size] using hLc,fun _=>rfl,?_⟩
   simp only[zN,hf2]
   refine⟨hpins,b,cs',rfl,hβk,hB',by omega,?_⟩
   rw[zJ hB'.blk (by omega)] at g1
   have hwin':win cs'.toList 0 t.size=cs'.toList:=by rw[← hz,← hz',← Ay];exact fG _
   rw[hwin'] at g1
   simp only[Aa] at g1
   rw[g1,hx2];exact g3
  have hp0:=vC hv
  cases f with
  | own e=>
   simp only[oE] at hm
   cases hm':oE p t e x d with
   | none=>simp[hm'] at hm
   | some y=>
    simp only[hm',Av,Aa,Ab] at hm
    obtain⟨rfl,rfl⟩:=hm
    exact main e y rfl hm' rfl rfl (by simp[pN,Fl.pins])
  | pin j g=>
   cases g with
   | own e=>
    simp only[oE] at hm
    cases hm':oE p t e x d with
    | none=>simp[hm'] at hm
    | some y=>
     simp only[hm',Av,Aa,Ab] at hm
     obtain⟨rfl,rfl⟩:=hm
     exact main e y rfl hm' rfl rfl (fun i hi=>hp0 i (by simpa[Fl.pins] using hi))
   | _=>simp[oE] at hm
  | _=>simp[oE] at hm
 | .elm i :: p,.sl t,f,x,d,f2,x2,k,ko,L,c,cd,t',b₀,o₀,hm,hi,hc,hv,hw,hsz,hL,hko,hβ,h0,h0',hS,hchg,hd=>by
  have main:∀ (e:Fl) (y:Fl × t.D),f.base=.own e→oE p t e (Ak x i t.dflt) d=some y→y.1=e→x2=AJ x i y.2→f2.base=.own e→pN H f2 c →
    ∃ c2,zD w' (Ty.sl t).size L=some c2∧(jumps (.elm i :: p)=true→c2=c)∧zN S β' H w' k (.sl t) f2 x2 c2:=by
   intro e y hf hm' hye hx2 hf2 hpins
   simp only[inB] at hi
   obtain⟨hi,hi'⟩:=hi
   have hv':=hv
   simp only[zN,hf] at hv'
   obtain⟨_,ad,cap,rfl,hle,hv1⟩:=hv'
   rcases hv1 with h|⟨b,o,cs,rfl,hkb,hB,hz,hel⟩
   ·have:=AP7 hle h;rw[this] at hi;simp at hi
   ·have hmul:(i+1) * t.size≤cap * t.size:=Af _ (Ao hi hle)
    rw[Ap] at hmul
    have hc':=zJ (o:=o+i * t.size) (n:=t.size) hB.blk (by omega)
    simp only[Ty.size] at hc
    simp only[vF,xJ,hc,hi,Au] at hw
    have hkey:(k++[i])++xA p=k++xA (.elm i :: p):=by simp[xA]
    obtain⟨c2,g1,g2,g3⟩:=AB2 (k:=k++[i]) (ko:=k) hm' hi' hc' (hel i _ (sZ hi)) hw hsz
     (fun bl o' e=>by simp only[Loc.mem.injEq] at e;rw[← e.1];exact⟨hkb,_,cs,hB⟩) (by simp) (by rw[hkey];exact hβ)
     (by simpa[yV] using h0) (by simpa[yV] using h0') hS hchg (by rw[hkey];exact hd)
    have hβk:β' k=some b:=by
     rw[hβ k (fun hp=>by have:=hp.length_le;simp[xA] at this<;>omega)]
     exact hkb
    have hLc:zD w' 1 L=some [.slice (some ⟨b,o,none⟩) (Ac x) cap]:=by
     cases L with
     | reg cr=>exact hc
     | mem bl ol=>
      obtain⟨hk,q0,csL,hBL⟩:=hL _ _ rfl
      have hcw:=mV hc hBL.blk
      have hnb:bl≠b₀:=fun e=>by
       subst e
       have:=h0 _ hk
       obtain⟨s,hs⟩:=rE (p:=.elm i :: p) (k:=k) (ko:=ko) (by simp[jumps,PS.jumps])
       rw[hs] at this
       have:=Am Ac this
       simp at this<;>omega
      rw[zJ (hBL.same (hchg.other bl hnb)).blk hcw.2,← hcw.1]
    have hko2:∀ j s,j≠i→yV k ko (.elm i :: p)≠k++[j]++s:=fun j s hj e=>by
     simp only[yV] at e
     rcases tY (p:=p) (k:=k++[i]) (ko:=k) with he|⟨u,he⟩
     ·rw[he] at e;have:=Am Ac e;simp at this<;>omega
     ·rw[he] at e;simp at e;exact hj e.1.symm
    have hside:∀ j z,j≠i→nth x j=some z→zN S β' H w' (k++[j]) t e z (win cs.toList (o+j * t.size) t.size):=fun j z hj hz=>
     Al3 (q:=[]) hS hchg (fun s=>hko2 j s hj) h0 (fun s=>hβ _ (by simp only[xA,A5,Ad,Aw];exact A2o (fun e=>hj e.symm))) (hel j z hz) rfl
    have hnew:∃ cs',AC1 (BO8 t) w' b cs'∧cs'.size=cs.size∧win cs'.toList (o+i * t.size) t.size=c2 ∧
      ∀ j,j≠i→j < Ac x→win cs'.toList (o+j * t.size) t.size=win cs.toList (o+j * t.size) t.size:=by
     by_cases e:b=b₀
     ·subst e
      obtain⟨cs',h1,h2,hcs,hle'⟩:=hchg.size hB
      have hj:jumps p=false:=by
       cases hj:jumps p with
       | false=>rfl
       | true=>
        have:=h0 _ hkb
        simp only[yV] at this
        obtain⟨s,hs⟩:=rE (k:=k++[i]) (ko:=k) hj
        rw[hs] at this
        have:=Am Ac this
        simp at this<;>omega
      obtain⟨o',e,ho1,ho2⟩:=pC hj hw
      simp only[Loc.mem.injEq] at e
      obtain⟨_,rfl⟩:=e
      have hdl:=zO hd
      refine⟨cs',h1,h2,?_,fun j hj' hjl=>?_⟩
      ·rw[zJ h1.blk (by omega)] at g1
       simpa using g1
      ·have hmj:(j+1) * t.size≤cap * t.size:=Af _ (Ao hjl hle)
       rw[Ap] at hmj
       rw[hcs]
       refine vG (by simpa using hle') ?_
       rcases AZ hj' with h|h
       ·have:(j+1) * t.size≤i * t.size:=Af _ h
        rw[Ap] at this
        exact .inl (by omega)
       ·have:(i+1) * t.size≤j * t.size:=Af _ h
        rw[Ap] at this
        exact .inr (by omega)
     ·have hs:=hB.same (hchg.other b e)
      refine⟨cs,hs,rfl,?_,fun _ _ _=>rfl⟩
      rw[zJ hs.blk (by omega)] at g1
      simpa using g1
    obtain⟨cs',hB',hz',h1,h2⟩:=hnew
    refine⟨_,by simpa[Ty.size] using hLc,fun _=>rfl,?_⟩
    simp only[zN,hf2]
    have hlen:Ac x2=Ac x:=by rw[hx2];exact Bk (as:=(x:List t.D))
    refine⟨hpins,_,cap,by rw[hlen],by rw[hlen];exact hle,.inr ⟨b,o,cs',rfl,hβk,hB',by omega,fun j z hz=>?_⟩⟩
    rw[hx2] at hz
    rcases Ao4 hz with ⟨rfl,_,rfl⟩| ⟨hj,hz⟩
    ·rw[h1,← hye];exact g3
    ·rw[h2 j hj (A8.1 hz).1];exact hside j z hj hz
  have hp0:=vC hv
  cases f with
  | own e=>
   simp only[oE] at hm
   cases hm':oE p t e (Ak x i t.dflt) d with
   | none=>simp[hm'] at hm
   | some y=>
    simp only[hm',AM] at hm
    split at hm
    ·rename_i hye
     simp only[Aa,Ab] at hm
     obtain⟨rfl,rfl⟩:=hm
     exact main e y rfl hm' hye rfl rfl (by simp[pN,Fl.pins])
    ·simp at hm
  | pin j g=>
   cases g with
   | own e=>
    simp only[oE] at hm
    cases hm':oE p t e (Ak x i t.dflt) d with
    | none=>simp[hm'] at hm
    | some y=>
     simp only[hm',AM] at hm
     split at hm
     ·rename_i hye
      simp only[Aa,Ab] at hm
      obtain⟨rfl,rfl⟩:=hm
      exact main e y rfl hm' hye rfl rfl (fun i hi=>hp0 i (by simpa[Fl.pins] using hi))
     ·simp at hm
   | _=>simp[oE] at hm
  | _=>simp[oE] at hm
end
end Go.Rf

end
section
namespace Go.Rf
theorem A4J:∀ {f:Fl},Fl.le .sh f=f.whole
 | .sh|.gone|.own _|.ar _=>by simp[Fl.le,Fl.whole,Fl.low]
 | .pr _ _=>by simp[Fl.le,Fl.whole]
 | .pin _ f=>by simp only[Fl.le,Fl.whole];exact A4J
theorem le_refl:∀ (f:Fl),Fl.le f f=true
 | .sh=>rfl
 | .gone=>rfl
 | .own e=>by simp only[Fl.le];exact le_refl e
 | .pr a b=>by simp only[Fl.le,le_refl a,le_refl b,Bool.and_self]
 | .ar e=>by simp only[Fl.le];exact le_refl e
 | .pin k f=>by simp only[Fl.le,le_refl f,Bo];exact Nat.beq_refl k
theorem fR {f:Fl} (h:f.whole=true):f.base≠.gone:=fun e=>by
 have:=tQ h;rw[e] at this;simp[Fl.whole] at this
theorem uE {f:Fl} (h:f.isGone=false):f.base≠.gone:=fun e=>by
 simp[Fl.isGone,e] at h
theorem A0q {a b:Fl}:(Fl.mkpr a b).base=Fl.mkpr a b:=by unfold Fl.mkpr;split<;>rfl
theorem A69 {a:Fl}:(Fl.mkar a).base=Fl.mkar a:=by unfold Fl.mkar;split<;>rfl
theorem Aj2 {a b:Fl}:(Fl.mkpr a b).l=a:=by unfold Fl.mkpr;split<;>simp_all[Fl.l]
theorem A25 {a b:Fl}:(Fl.mkpr a b).r=b:=by unfold Fl.mkpr;split<;>simp_all[Fl.r]
theorem BM8 {a:Fl}:(Fl.mkar a).a=a:=by unfold Fl.mkar;split<;>simp_all[Fl.a]
theorem A57 {a b:Fl}:(Fl.mkpr a b).base≠.gone:=by unfold Fl.mkpr;split<;>simp[Fl.base]
theorem A9k {a:Fl}:(Fl.mkar a).base≠.gone:=by unfold Fl.mkar;split<;>simp[Fl.base]
theorem uC:∀ {f g:Fl},(Fl.wrap f g).base=g.base
 | .pin k _,g=>by simp only[Fl.wrap];cases g<;>rfl
 | .sh,_|.gone,_|.own _,_|.pr _ _,_|.ar _,_=>rfl
theorem A50 {f g:Fl}:∀ k ∈ (Fl.wrap f g).pins,k ∈ g.pins∨k ∈ f.pins:=by
 intro k hk
 cases f with
 | pin j f=>
  simp only[Fl.wrap] at hk
  cases g with
  | pin i e=>exact .inl hk
  | _=>simp only[Fl.mkpin,Fl.pins,AF,Bg,or_false] at hk;subst hk;exact .inr (by simp[Fl.pins])
 | _=>exact .inl hk
theorem BE4 {f g:Fl} (h:Fl.le g f=true) (hd:∀ k e,f=.pin k e→Fl.le g e=true) (hg:∀ k e,g≠.pin k e):Fl.le (Fl.wrap f g) f=true:=by
 cases f with
 | pin k e=>
  have hm:Fl.wrap (.pin k e) g=.pin k g:=by
   simp only[Fl.wrap];unfold Fl.mkpin;split
   ·rename_i j e he;exact absurd rfl (hg _ _)
   ·rfl
  rw[hm];simp only[Fl.le,hd k e rfl,Bo];exact Nat.beq_refl k
 | _=>exact h
theorem AQ3:∀ {f g:Fl},(∀ k e,g≠.pin k e)→Fl.le g f.base=true→Fl.le g f=true
 | .pin k f,g,hg,h=>by
  simp only[Fl.base] at h
  have:=AQ3 hg h
  unfold Fl.le;split
  ·exact absurd rfl (hg _ _)
  ·exact this
 | .sh,_,_,h|.gone,_,_,h|.own _,_,_,h|.pr _ _,_,_,h|.ar _,_,_,h=>h
theorem bN {f g:Fl} (hg:∀ k e,g≠.pin k e) (h:Fl.le g f.base=true):Fl.le (Fl.wrap f g) f=true:=
 BE4 (AQ3 hg h) (fun k e he=>by subst he;exact AQ3 hg h) hg
theorem qN {p:List PS} {t:Ty} {f:Fl} {x:t.D} {d:Dat} (h:yJ p t f x=some d) (hd:d.f.base≠.gone):f.base≠.gone:=fun e=>hd (nQ e h)
theorem AU0 {f:Fl} (h:f.l.base≠.gone):f.base=.sh∨∃ c d,f.base=.pr c d:=by
 rw[mQ] at h
 cases hf:f.base with
 | sh=>exact .inl rfl
 | pr c d=>exact .inr ⟨c,d,rfl⟩
 | pin k e=>exact absurd hf zL
 | _=>rw[hf] at h;simp[Fl.l,Fl.base] at h
theorem AT7 {f:Fl} (h:f.r.base≠.gone):f.base=.sh∨∃ c d,f.base=.pr c d:=by
 rw[mO] at h
 cases hf:f.base with
 | sh=>exact .inl rfl
 | pr c d=>exact .inr ⟨c,d,rfl⟩
 | pin k e=>exact absurd hf zL
 | _=>rw[hf] at h;simp[Fl.r,Fl.base] at h
theorem AS1 {f:Fl} (h:f.a.base≠.gone):f.base=.sh∨∃ c,f.base=.ar c:=by
 rw[cN] at h
 cases hf:f.base with
 | sh=>exact .inl rfl
 | ar c=>exact .inr ⟨c,rfl⟩
 | pin k e=>exact absurd hf zL
 | _=>rw[hf] at h;simp[Fl.a,Fl.base] at h
theorem sV {f:Fl} (h:f.e.base≠.gone):f.base=.sh∨∃ c,f.base=.own c:=by
 rw[qF] at h
 cases hf:f.base with
 | sh=>exact .inl rfl
 | own c=>exact .inr ⟨c,rfl⟩
 | pin k e=>exact absurd hf zL
 | _=>rw[hf] at h;simp[Fl.e,Fl.base] at h
theorem A3l {a b:Fl}:∀ k e,Fl.mkpr a b≠.pin k e:=fun k g=>by unfold Fl.mkpr;split<;>simp
theorem A4D {a:Fl}:∀ k e,Fl.mkar a≠.pin k e:=fun k g=>by unfold Fl.mkar;split<;>simp
theorem A5d {a b f:Fl} (h1:Fl.le a f.l=true) (h2:Fl.le b f.r=true) (hn:f.base=.sh∨∃ c d,f.base=.pr c d):Fl.le (Fl.wrap f (.mkpr a b)) f=true:=by
 refine bN A3l ?_
 rw[mQ] at h1
 rw[mO] at h2
 rcases hn with h|⟨c,d,h⟩<;>rw[h] at h1 h2 ⊢
 ·simp only[Fl.l,Fl.r,Fl.le] at h1 h2
  unfold Fl.mkpr;split<;>simp[Fl.le,Fl.low,h1,h2]
 ·simp only[Fl.l,Fl.r] at h1 h2
  unfold Fl.mkpr;split
  ·rw[A4J] at h1 h2;simp[Fl.le,h1,h2]
  ·simp[Fl.le,h1,h2]
theorem A9v {a f:Fl} (h1:Fl.le a f.a=true) (hn:f.base=.sh∨∃ c,f.base=.ar c):Fl.le (Fl.wrap f (.mkar a)) f=true:=by
 refine bN A4D ?_
 rw[cN] at h1
 rcases hn with h|⟨c,h⟩<;>rw[h] at h1 ⊢
 ·simp only[Fl.a,Fl.le] at h1
  unfold Fl.mkar;split<;>simp[Fl.le,Fl.low,h1]
 ·simp only[Fl.a] at h1
  unfold Fl.mkar;split
  ·rw[A4J] at h1;simp[Fl.le,h1]
  ·simp[Fl.le,h1]
theorem A3j {f g:Fl}:∀ k e,A0x f g≠.pin k e:=fun k e=>by unfold A0x;split<;>simp
theorem A6G {f g:Fl}:(A0x f g).base≠.gone:=by unfold A0x;split<;>simp[Fl.base]
theorem A9B {g f:Fl} (h1:Fl.le g f.e=true) (hn:f.base=.sh∨∃ c,f.base=.own c):Fl.le (Fl.wrap f (A0x f g)) f=true:=by
 refine bN A3j ?_
 rw[qF] at h1
 unfold A0x
 rcases hn with h|⟨c,h⟩<;>rw[h] at h1 ⊢
 ·rfl
 ·simpa[Fl.le,Fl.e] using h1
theorem AR2 {g:Fl}:∀ {p:List PS} {t:Ty} {f:Fl} {x:t.D} {d:Dat},yJ p t f x=some d→d.f.base≠.gone→Fl.le g d.f=true→Fl.le (kD p f g) f=true
 | [],t,f,x,d,h,_,hw=>by simp only[yJ,Aa] at h;subst h;exact hw
 | .fst :: p,.pair a b,f,x,d,h,hd,hw=>by
  simp only[yJ] at h
  simp only[kD]
  exact A5d (AR2 h hd hw) (le_refl _) (AU0 (qN h hd))
 | .snd :: p,.pair a b,f,x,d,h,hd,hw=>by
  simp only[yJ] at h
  simp only[kD]
  exact A5d (le_refl _) (AR2 h hd hw) (AT7 (qN h hd))
 | .idx i :: p,.arr n t,f,x,d,h,hd,hw=>by
  simp only[yJ] at h
  simp only[kD]
  exact A9v (AR2 h hd hw) (AS1 (qN h hd))
 | .der :: p,.ptr t,f,x,d,h,hd,hw=>by
  simp only[yJ] at h
  simp only[kD]
  exact A9B (AR2 h hd hw) (sV (qN h hd))
 | .elm i :: p,.sl t,f,x,d,h,hd,hw=>by
  simp only[yJ] at h
  simp only[kD]
  exact A9B (AR2 h hd hw) (sV (qN h hd))
theorem lN:∀ {p:List PS} {t:Ty} {f:Fl} {x:t.D} {d:Dat},f.base=.sh→yJ p t f x=some d→d.f.base=.sh
 | [],_,_,_,_,hf,h=>by simp only[yJ,Aa] at h;subst h;exact hf
 | .fst :: p,.pair a _,f,x,d,hf,h=>by simp only[yJ] at h;rw[mQ,hf] at h;exact lN rfl h
 | .snd :: p,.pair a _,f,x,d,hf,h=>by simp only[yJ] at h;rw[mO,hf] at h;exact lN rfl h
 | .der :: p,.ptr _,f,x,d,hf,h=>by simp only[yJ] at h;rw[qF,hf] at h;exact lN rfl h
 | .idx i :: p,.arr _ _,f,x,d,hf,h=>by simp only[yJ] at h;rw[cN,hf] at h;exact lN rfl h
 | .elm i :: p,.sl _,f,x,d,hf,h=>by simp only[yJ] at h;rw[qF,hf] at h;exact lN rfl h
theorem pY:∀ {p:List PS} {t:Ty} {f g:Fl} {x:t.D} {d:Dat},yJ p t f x=some d→∃ h,yJ p t g x=some ⟨d.t,d.x,h⟩
 | [],_,_,g,_,_,h=>by simp only[yJ,Aa] at h;subst h;exact⟨g,rfl⟩
 | .fst :: p,.pair a _,f,g,x,d,h=>by simp only[yJ] at h ⊢;exact pY h
 | .snd :: p,.pair a _,f,g,x,d,h=>by simp only[yJ] at h ⊢;exact pY h
 | .der :: p,.ptr _,f,g,x,d,h=>by simp only[yJ] at h ⊢;exact pY h
 | .idx i :: p,.arr _ _,f,g,x,d,h=>by simp only[yJ] at h ⊢;exact pY h
 | .elm i :: p,.sl _,f,g,x,d,h=>by simp only[yJ] at h ⊢;exact pY h
theorem iE:∀ {p:List PS} {t:Ty} {f:Fl} {x y:t.D} {d:Dat},yJ p t f x=some d→∃ z,yJ p t f y=some ⟨d.t,z,d.f⟩
 | [],_,_,_,y,_,h=>by simp only[yJ,Aa] at h;subst h;exact⟨y,rfl⟩
 | .fst :: p,.pair a _,f,_,y,d,h=>by simp only[yJ] at h ⊢;exact iE h
 | .snd :: p,.pair a _,f,_,y,d,h=>by simp only[yJ] at h ⊢;exact iE h
 | .der :: p,.ptr _,f,_,y,d,h=>by simp only[yJ] at h ⊢;exact iE h
 | .idx i :: p,.arr _ _,f,_,y,d,h=>by simp only[yJ] at h ⊢;exact iE h
 | .elm i :: p,.sl _,f,_,y,d,h=>by simp only[yJ] at h ⊢;exact iE h
theorem A8x {f g:Fl} (hn:f.base=.sh∨∃ c,f.base=.own c):(A0x f g).e=.sh∨(A0x f g).e=g:=by
 unfold A0x
 rcases hn with h|⟨c,h⟩<;>rw[h]<;>simp[Fl.e]
theorem bT:∀ {p:List PS} {t:Ty} {f:Fl} {x:t.D} {d:Dat},yJ p t f x=some d→f.base=.sh→d.f.base≠.gone:=fun h hf=>by
 rw[lN hf h];simp
theorem fT:∀ {p q:List PS} {t:Ty} {f:Fl} {x y:t.D} {d e:Dat},yJ p t f y=some e→e.f.base≠.gone→yJ q t f x=some d→d.f.base≠.gone →
  ∃ h,yJ q t (kD p f .sh) x=some ⟨d.t,d.x,h⟩∧h.base≠.gone
 | [],q,t,f,x,y,d,e,_,_,hq,_=>by
  obtain⟨h,hh⟩:=pY (g:=.sh) hq
  exact⟨h,hh,by have:=bT hh rfl;exact this⟩
 | s :: p,[],t,f,x,y,d,e,hp,he,hq,hd=>by
  simp only[yJ,Aa] at hq;subst hq
  refine⟨_,rfl,?_⟩
  cases s<;>simp only[kD,uC]
  ·exact A6G
  ·exact A57
  ·exact A57
  ·exact A9k
  ·exact A6G
 | s :: p,r :: q,t,f,x,y,d,e,hp,he,hq,hd=>by
  cases s<;>cases t<;>cases r<;>(try simp only[yJ,reduceCtorEq] at hp)<;>(try simp only[yJ,reduceCtorEq] at hq)<;>simp only[yJ,kD]
  case fst.pair.fst=>
   rw[mQ,uC,← mQ,Aj2]
   exact fT hp he hq hd
  case snd.pair.snd=>
   rw[mO,uC,← mO,A25]
   exact fT hp he hq hd
  case fst.pair.snd=>
   rw[mO,uC,← mO,A25]
   exact⟨_,hq,hd⟩
  case snd.pair.fst=>
   rw[mQ,uC,← mQ,Aj2]
   exact⟨_,hq,hd⟩
  case idx.arr.idx=>
   rw[cN,uC,← cN,BM8]
   exact fT hp he hq hd
  case der.ptr.der=>
   rw[qF,uC,← qF]
   rcases A8x (g:=kD p f.e .sh) (sV (qN hp he)) with h|h
   ·obtain⟨k,hk⟩:=pY (g:=.sh) hq
    exact⟨k,(Am (fun g=>yJ q _ g _) h).trans hk,by have:=bT hk rfl;exact this⟩
   ·obtain⟨k,hk,hne⟩:=fT hp he hq hd
    exact⟨k,(Am (fun g=>yJ q _ g _) h).trans hk,hne⟩
  case elm.sl.elm=>
   rw[qF,uC,← qF]
   rcases A8x (g:=kD p f.e .sh) (sV (qN hp he)) with h|h
   ·obtain⟨k,hk⟩:=pY (g:=.sh) hq
    exact⟨k,(Am (fun g=>yJ q _ g _) h).trans hk,by have:=bT hk rfl;exact this⟩
   ·obtain⟨k,hk,hne⟩:=fT hp he hq hd
    exact⟨k,(Am (fun g=>yJ q _ g _) h).trans hk,hne⟩
section
variable {S S':Nat→Prop} {β β':Key→Option Nat} {H:Nat→Option (List Value)} {w w':World}
theorem mI {k:Key} {t:Ty} {f g:Fl} {x:t.D} {c:List Value} (hp:pN H f c) (h:zN S β H w k t g x c):zN S β H w k t (Fl.wrap f g) x c:=by
 have hb:(Fl.wrap f g).base=g.base:=uC
 have hpin:pN H (Fl.wrap f g) c:=fun k hk=>(A50 k hk).elim (fun h'=>vC h k h') (fun h'=>hp k h')
 cases t<;>simp only[zN] at h ⊢<;>rw[hb]<;>exact⟨hpin,h.2⟩
theorem jO {k:Key} {t:Ty} {f:Fl} {x:t.D} {c:List Value} (h:zN S β H w k t f x c):zN S β H w k t f.base x c:=by
 have hb:f.base.base=f.base:=by
  cases hf:f.base<;>simp[Fl.base]
  exact absurd hf zL
 have hpin:pN H f.base c:=fun k hk=>by
  cases hf:f.base with
  | pin _ _=>exact absurd hf zL
  | _=>rw[hf] at hk;simp[Fl.pins] at hk
 cases t<;>simp only[zN] at h ⊢<;>rw[hb]<;>exact⟨hpin,h.2⟩
theorem pA (hS:∀ b,S b→S' b∧w'.heap[b]?=w.heap[b]?):∀ {p:List PS} {t:Ty} {f:Fl} {x:t.D} {c:List Value} {k:Key} {d:Dat},
  cW p=false→yJ p t f x=some d→d.f.base≠.gone →
  (∀ s b,¬ xA p <+: s→β (k++s)=some b→β' (k++s)=some b∧w'.heap[b]?=w.heap[b]?) →
  zN S β H w k t f x c→zN S' β' H w' k t (kD p f .gone) x c
 | [],t,f,x,c,k,d,_,_,_,_,h=>by
  simp only[kD];exact AX8.2 (zO h)
 | .fst :: p,.pair a b,f,x,c,k,d,he,hg,hd,hβ,h=>by
  simp only[yJ] at hg
  simp only[kD]
  have hp:=wJ h
  refine mI (vC h) (sW.2 ⟨pA hS (by simpa[cW,PS.isElm] using he) hg hd (fun s b hs hb=>by simpa using hβ (0 :: s) b (by simpa[xA,Al] using hs) (by simpa using hb)) hp.1,?_⟩)
  exact zI hS (fun s b hb=>by simpa using hβ (1 :: s) b (by simp[xA,Al]) (by simpa using hb)) hp.2
 | .snd :: p,.pair a b,f,x,c,k,d,he,hg,hd,hβ,h=>by
  simp only[yJ] at hg
  simp only[kD]
  have hp:=wJ h
  refine mI (vC h) (sW.2 ⟨?_,pA hS (by simpa[cW,PS.isElm] using he) hg hd (fun s b hs hb=>by simpa using hβ (1 :: s) b (by simpa[xA,Al] using hs) (by simpa using hb)) hp.2⟩)
  exact zI hS (fun s b hb=>by simpa using hβ (0 :: s) b (by simp[xA,Al]) (by simpa using hb)) hp.1
 | .der :: p,.ptr t,f,x,c,k,d,he,hg,hd,hβ,h=>by
  simp only[yJ] at hg
  simp only[kD]
  refine mI (vC h) ?_
  rcases sV (qN hg hd) with hf|⟨e,hf⟩
  ·simp only[A0x,hf]
   have:=jO h
   rw[hf,yO] at this
   rw[yO];exact zM hS this
  ·simp only[A0x,hf]
   have h':=jO h
   rw[hf] at h'
   rw[qF,hf] at hg ⊢
   simp only[zN,Fl.base] at h' ⊢
   obtain⟨_,b,cs,rfl,hb,ho,hz,hv⟩:=h'
   have:=hβ [] b (by simp[xA]) (by simpa using hb)
   simp only[A9] at this
   refine⟨by simp[pN,Fl.pins],b,cs,rfl,this.1,ho.same this.2,hz,?_⟩
   exact pA hS (by simpa[cW,PS.isElm] using he) (by simpa[Fl.e] using hg) hd (fun s b hs hb=>by simpa using hβ (0 :: s) b (by simpa[xA,Al] using hs) (by simpa using hb)) hv
 | .idx i :: p,.arr n t,f,x,c,k,d,he,hg,hd,hβ,h=>by
  simp only[yJ] at hg
  simp only[kD]
  have h':=mU (qN hg hd) h
  refine mI (vC h) (aJ.2 ⟨h'.1,h'.2.1,fun j y hy=>?_⟩)
  obtain⟨z,hz⟩:=iE (y:=y) hg
  refine pA hS (by simpa[cW,PS.isElm] using he) hz hd (fun s b hs hb=>?_) (h'.2.2 j y hy)
  have hs':¬ xA (.idx i :: p) <+: j :: s:=by simp only[xA,Al,not_and];exact fun _=>hs
  simpa using hβ (j :: s) b hs' (by simpa using hb)
 | .elm i :: p,_,f,x,c,k,d,he,_,_,_,_=>by simp[cW,PS.isElm] at he
end
end Go.Rf

end
section
namespace Go.Rf
def sA:Key→Key→Option Key
 | [],k=>some k
 | a :: d,b :: k=>if a=b then sA d k else none
 | _ :: _,[]=>none
theorem pU:∀ {d k s:Key},sA d k=some s↔k=d++s
 | [],k,s=>by simp[sA]
 | a :: d,b :: k,s=>by
  simp only[sA,Ad,Ax]
  split
  ·rename_i h;subst h;simp[pU (d:=d) (k:=k) (s:=s)]
  ·rename_i h;simp;intro e;exact absurd e.symm h
 | _ :: _,[],s=>by simp[sA]
theorem iI {d k:Key} (h:sA d k=none):∀ s,k≠d++s:=fun s e=>by
 rw[pU.2 e] at h;cases h
theorem A0V (d s:Key):sA d (d++s)=some s:=pU.2 rfl
class Laid where
 tabs:List (Nat × Array Value)
set_option linter.unusedSectionVars false
variable [T:Laid]
structure Sane (w:World) (S:Nat→Prop) (β:Key→Option Nat):Prop where
 inj:∀ k k' b,β k=some b→β k'=some b→k=k'
 sep:∀ k b,β k=some b→¬ S b
 live:∀ k b,β k=some b→b < w.heap.size
 liveS:∀ b,S b→b < w.heap.size
 tab:∀ t ∈ T.tabs,S t.1∧Blk w t.1 t.2
theorem Sane.tabs {w w':World} {S S':Nat→Prop} {β:Key→Option Nat} (h:Sane w S β) (hS:∀ b,S b→S' b∧w'.heap[b]?=w.heap[b]?):∀ t ∈ T.tabs,S' t.1∧Blk w' t.1 t.2:=fun t ht=>
 ⟨(hS _ (h.tab t ht).1).1,(h.tab t ht).2.same (hS _ (h.tab t ht).1).2⟩
structure Step (w:World) (S:Nat→Prop) (β:Key→Option Nat) (w':World) (S':Nat→Prop) (β':Key→Option Nat):Prop where
 size:w.heap.size≤w'.heap.size
 old:∀ b,b < w.heap.size→(∀ k,β k≠some b)→w'.heap[b]?=w.heap[b]?
 new:∀ k b,β' k=some b→(∃ k',β k'=some b)∨w.heap.size≤b
 keepS:∀ b,S b→S' b
 newS:∀ b,S' b→S b∨(∃ k,β k=some b)∨w.heap.size≤b
 out:SameOut w w'
theorem Step.refl {w:World} {S:Nat→Prop} {β:Key→Option Nat}:Step w S β w S β:=
 ⟨Ai _,fun _ _ _=>rfl,fun k _ h=>.inl ⟨k,h⟩,fun _ h=>h,fun _ h=>.inl h,.rfl'⟩
theorem Step.trans {w w' w'':World} {S S' S'':Nat→Prop} {β β' β'':Key→Option Nat} (h:Step w S β w' S' β') (h':Step w' S' β' w'' S'' β''):Step w S β w'' S'' β'' where
 size:=Ao h.size h'.size
 old b hb hk:=by
  rw[← h.old b hb hk]
  refine h'.old b (Nat.lt_of_lt_of_le hb h.size) fun k hk'=>?_
  rcases h.new k b hk' with ⟨k',e⟩| e
  ·exact hk k' e
  ·omega
 new k b hb:=by
  rcases h'.new k b hb with ⟨k',e⟩| e
  ·exact h.new k' b e
  ·have:=h.size;exact .inr (by omega)
 keepS b hb:=h'.keepS b (h.keepS b hb)
 newS b hb:=by
  rcases h'.newS b hb with e|⟨k,e⟩| e
  ·exact h.newS b e
  ·rcases h.new k b e with e|e
   ·exact .inr (.inl e)
   ·exact .inr (.inr e)
  ·have:=h.size;exact .inr (.inr (by omega))
 out:=h.out.trans h'.out
theorem Step.same {w w':World} {S S':Nat→Prop} {β β':Key→Option Nat} (h:Step w S β w' S' β') (hs:Sane w S β):∀ b,S b→S' b∧w'.heap[b]?=w.heap[b]?:=
 fun b hb=>⟨h.keepS b hb,h.old b (hs.liveS b hb) fun k hk=>hs.sep k b hk hb⟩
theorem uA {t:Ty} {c c':List Value} (h:zV t c=zV t c') (hl:c.length=t.size) (hl':c'.length=t.size):c=c':=by
 unfold zV at h
 cases ha:t.agg with
 | true=>rw[ha] at h;simpa using h
 | false=>
  rw[ha] at h
  have hs:t.size=1:=by cases t<;>simp_all[Ty.agg,Ty.size]
  rw[hs] at hl hl'
  obtain⟨a,rfl⟩:=A1.1 hl
  obtain⟨b,rfl⟩:=A1.1 hl'
  simpa using h
def A9Z:Ty→List Value→List Value
 | .pair a b,c=>zV a (c.take a.size) :: A9Z b (c.drop a.size)
 | _,_=>[]
def A7p (t:Ty) (c:List Value):Value:=.tuple (A9Z t c).toArray
def upd (V:Nat→Option Value) (i:Nat) (v:Value):Nat→Option Value:=fun j=>if j=i then some v else V j
def repl (β:Key→Option Nat) (k:Key) (i:Nat) (b:Nat):Key→Option Nat:=fun k'=>if k'=k then some b else if k'=[i] then none else β k'
section
variable (H:Nat→Option (List Value)) (N:Nat) (g:zW) (V:Nat→Option Value) (w:World) (S:Nat→Prop) (β:Key→Option Nat)
def BN4 (r:Nat) (p:List PS) (v:Option Value):Prop:=
 ∀ dr,(g r).sv=.dat dr→∃ cr t b o,V r=some (zV dr.t cr)∧cr.length=dr.t.size∧vF w dr.t (.reg cr) p=some (t,.mem b o) ∧
  v=some (.pointer (some ⟨b,o,none⟩))∧inB p dr.t dr.x∧(jG p=false→∃ d,yJ p dr.t dr.f dr.x=some d∧d.f.base≠.gone)
def BN7 (r:Nat) (p:List PS) (v:Option Value):Prop:=
 ∀ dr,(g r).sv=.dat dr→∃ cr d L c',V r=some (zV dr.t cr)∧cr.length=dr.t.size∧yJ p dr.t dr.f dr.x=some d∧d.f.base≠.gone∧inB p dr.t dr.x ∧
  vF w dr.t (.reg cr) p=some (d.t,L)∧zD w d.t.size L=some c'∧v=some (zV d.t c')
def A3y (i r:Nat) (p:List PS) (d:Dat) (v:Option Value):Prop:=
 ∀ dr,(g r).sv=.dat dr→(∃ e,yJ p dr.t dr.f dr.x=some e∧e.f.base≠.gone∧inB p dr.t dr.x)∧∃ β2 c,(β2=β∨∃ b,β [i]=some b∧β2=repl β (r :: xA p) i b) ∧
  zN S β2 H w (r :: xA p) d.t d.f d.x c∧v=some (zV d.t c)
def BR8 (h:FuncId) (rs:List (Nat × Nat)) (v:Option Value):Prop:=
 ∀ vs:List Value,rs.map (fun x=>V x.1)=vs.map some→v=some (.func (.func h) #[] vs.toArray)
def rR (i:Nat):SV→Prop
 | .dead=>True
 | .nils=>False
 | .und=>V i=some undef
 | .unk=>∃ b,V i=some (.bool b)
 | .dat d=>∃ c,zN S β H w [i] d.t d.f d.x c∧V i=some (zV d.t c)
 | .tup d=>∃ c,zN S β H w [i] d.t d.f d.x c∧V i=some (A7p d.t c)
 | .adr r p c s=>r < N∧c≤(g r).c∧s≤(g r).s∧(okB g r p c s=true→BN4 g V w r p (V i))
 | .als r p c s=>r < N∧c≤(g r).c∧s≤(g r).s∧(okA g r c s=true→BN7 g V w r p (V i))
 | .pend r p c s u d=>r < N∧c≤(g r).c∧s≤(g r).s∧u≤(g r).u∧(okU g r c s u=true→A3y H g w S β i r p d (V i))
 | .clo h rs=>(∀ x ∈ rs,x.1 < N∧x.2≤(g x.1).s)∧((∀ x ∈ rs,(g x.1).s=x.2)→BR8 V h rs (V i))
structure Rel:Prop where
 sane:Sane w S β
 slots:∀ i,rR H N g V w S β i (g i).sv
end
theorem dU {g:zW} {r c s:Nat}:okA g r c s=true↔(g r).c=c∧(g r).s=s:=by
 simp[okA,A2]
theorem AQ7 {g:zW} {r c s u:Nat}:okU g r c s u=true↔((g r).c=c∧(g r).s=s)∧(g r).u=u:=by
 simp[okU,dU,A2]
theorem iX {g:zW} {r:Nat} {p:List PS} {c s:Nat}:okB g r p c s=true↔(g r).s=s∧(jG p=true∨(g r).c=c):=by
 simp[okB,A2]
theorem AL8 {w w':World}:∀ {p:List PS} {t:Ty} {L:Loc},jumps p=false→vF w t L p=vF w' t L p
 | [],_,_,_=>rfl
 | s :: p,t,L,h=>by
  simp only[jumps,Bool.or_eq_false_iff] at h
  have hs:xJ w t L s=xJ w' t L s:=by
   cases s<;>cases t<;>first|rfl|simp[PS.jumps] at h
  simp only[vF,hs]
  split
  ·exact AL8 h.2
  ·rfl
theorem AB1 {w w':World} {p:List PS} {t:Ty} {c:List Value} (h:jG p=true):vF w t (.reg c) p=vF w' t (.reg c) p:=by
 cases p with
 | nil=>rfl
 | cons s p=>
  cases s<;>simp only[jG,A3,A6] at h
  cases t<;>try rfl
  simp only[vF,xJ,zD]
  split
  ·rename_i t' L he
   split at he
   ·simp only[Aa,Ab] at he
    obtain⟨rfl,rfl⟩:=he
    exact AL8 h
   ·simp at he
  ·rfl
theorem AM4:∀ {p:List PS} {t:Ty} {x y:t.D},jumps p=false→inB p t x→inB p t y
 | [],_,_,_,_,_=>by simp[inB]
 | .fst :: p,.pair _ _,_,_,h,k=>by
  simp only[jumps,PS.jumps,As] at h;simp only[inB] at k ⊢;exact AM4 h k
 | .snd :: p,.pair _ _,_,_,h,k=>by
  simp only[jumps,PS.jumps,As] at h;simp only[inB] at k ⊢;exact AM4 h k
 | .idx i :: p,.arr _ _,_,_,h,k=>by
  simp only[jumps,PS.jumps,As] at h;simp only[inB] at k ⊢;exact⟨k.1,AM4 h k.2⟩
 | .der :: p,_,_,_,h,_=>by simp[jumps,PS.jumps] at h
 | .elm _ :: p,_,_,_,h,_=>by simp[jumps,PS.jumps] at h
 | .fst :: p,.int _,_,_,_,k|.fst :: p,.bool,_,_,_,k|.fst :: p,.str,_,_,_,k|.fst :: p,.fn,_,_,_,k|.fst :: p,.unit,_,_,_,k
 | .fst :: p,.sl _,_,_,_,k|.fst :: p,.ptr _,_,_,_,k|.fst :: p,.arr _ _,_,_,_,k=>by simp[inB] at k
 | .snd :: p,.int _,_,_,_,k|.snd :: p,.bool,_,_,_,k|.snd :: p,.str,_,_,_,k|.snd :: p,.fn,_,_,_,k|.snd :: p,.unit,_,_,_,k
 | .snd :: p,.sl _,_,_,_,k|.snd :: p,.ptr _,_,_,_,k|.snd :: p,.arr _ _,_,_,_,k=>by simp[inB] at k
 | .idx _ :: p,.int _,_,_,_,k|.idx _ :: p,.bool,_,_,_,k|.idx _ :: p,.str,_,_,_,k|.idx _ :: p,.fn,_,_,_,k|.idx _ :: p,.unit,_,_,_,k
 | .idx _ :: p,.sl _,_,_,_,k|.idx _ :: p,.ptr _,_,_,_,k|.idx _ :: p,.pair _ _,_,_,_,k=>by simp[inB] at k
theorem A5u {p:List PS} {t:Ty} {x y:t.D} (h:jG p=true) (k:inB p t x):inB p t y:=by
 cases p with
 | nil=>simp[inB]
 | cons s p=>
  cases s<;>simp only[jG,A3,A6] at h
  cases t<;>simp only[inB] at k ⊢
  exact AM4 h k
section
variable {H:Nat→Option (List Value)} {N:Nat} {g g':zW} {V V':Nat→Option Value} {w w':World} {S S':Nat→Prop} {β β':Key→Option Nat}
theorem rR.at {i:Nat} {p:List PS} {dr d:Dat} (h:rR H N g V w S β i (.dat dr)) (hg:yJ p dr.t dr.f dr.x=some d) (hb:inB p dr.t dr.x) (hn:d.f.base≠.gone):
  ∃ cr L c,V i=some (zV dr.t cr)∧cr.length=dr.t.size∧zN S β H w [i] dr.t dr.f dr.x cr∧vF w dr.t (.reg cr) p=some (d.t,L)∧zD w d.t.size L=some c∧zN S β H w (i :: xA p) d.t d.f d.x c:=by
 obtain⟨cr,hv,hV⟩:=h
 have hl:=zO hv
 obtain⟨L,c,h1,h2,h3⟩:=A2a (L:=.reg cr) hg hb hn (by simp[zD,hl]) hv
 exact⟨cr,L,c,hV,hl,hv,h1,h2,h3⟩
theorem A5w {i:Nat} (hR:∀ j,rR H N g V w S β j (g j).sv) (hS:∀ b,S b→S' b∧w'.heap[b]?=w.heap[b]?)
  (hβ:∀ j s b,j≠i→(g j).sv≠.dead→β (j :: s)=some b→β' (j :: s)=some b∧w'.heap[b]?=w.heap[b]?)
  (hg:∀ j,j≠i→g' j=g j) (hV:∀ j,j≠i→V' j=V j)
  (hc:(g i).c≤(g' i).c) (hs:(g i).s≤(g' i).s) (hu:(g i).u < (g' i).u)
  (hadr:∀ p c s v,c≤(g i).c→s≤(g i).s→(okB g i p c s=true→BN4 g V w i p v)→okB g' i p c s=true→BN4 g' V' w' i p v)
  (hals:∀ p c s v,c≤(g i).c→s≤(g i).s→(okA g i c s=true→BN7 g V w i p v)→okA g' i c s=true→BN7 g' V' w' i p v)
  (hclo:V' i=V i∨(g i).s < (g' i).s) {j:Nat} (hj:j≠i):rR H N g' V' w' S' β' j (g j).sv:=by
 have h:=hR j
 have datR:∀ {q dr},q≠i→(g q).sv=.dat dr→∀ {t f x c},zN S β H w [q] t f x c→zN S' β' H w' [q] t f x c:=fun {q dr} hq hd {t f x c} hv=>
  zI hS (fun s b hb=>hβ q s b hq (by simp[hd]) hb) hv
 cases hv:(g j).sv with
 | dead=>trivial
 | nils=>rw[hv] at h;exact h
 | und=>rw[hv] at h;simp only[rR] at h ⊢;rw[hV j hj];exact h
 | unk=>rw[hv] at h;simp only[rR] at h ⊢;rw[hV j hj];exact h
 | dat d=>
  rw[hv] at h
  obtain⟨c,h1,h2⟩:=h
  exact⟨c,datR hj hv h1,by rw[hV j hj];exact h2⟩
 | tup d=>
  rw[hv] at h
  obtain⟨c,h1,h2⟩:=h
  exact⟨c,zI hS (fun s b hb=>hβ j s b hj (by simp[hv]) hb) h1,by rw[hV j hj];exact h2⟩
 | adr r p c s=>
  rw[hv] at h
  obtain⟨h0,h1,h2,h3⟩:=h
  simp only[rR]
  rw[hV j hj]
  refine⟨h0,?_⟩
  by_cases hr:r=i
  ·subst hr
   exact⟨Ao h1 hc,Ao h2 hs,hadr p c s (V j) h1 h2 h3⟩
  ·refine⟨by rw[hg r hr];exact h1,by rw[hg r hr];exact h2,fun hok dr hdr=>?_⟩
   rw[hg r hr] at hdr
   have hok':okB g r p c s=true:=by simp only[iX,hg r hr] at hok ⊢;exact hok
   obtain⟨cr,t,b,o,k1,k2,k3,k4,k5,k6⟩:=h3 hok' dr hdr
   refine⟨cr,t,b,o,by rw[hV r hr];exact k1,k2,?_,k4,k5,k6⟩
   cases hbx:jG p with
   | true=>rw[AB1 (w':=w) hbx];exact k3
   | false=>
    obtain⟨d,hg1,hg2⟩:=k6 hbx
    have hr':=hR r
    rw[hdr] at hr'
    obtain⟨c2,hv2,hV2⟩:=hr'
    have:=uA (A4 (hV2.symm.trans k1)) (zO hv2) k2
    subst this
    obtain⟨L',c',e1,e2,_⟩:=rO (w':=w') (L:=.reg c2) (fun b hb=>(hS b hb).2) (fun s b hb=>(hβ r s b hr (by simp[hdr]) hb).2) hg1 k5 hg2 (by simp[zD,k2]) (by simp[zD,k2]) hv2
    rw[k3] at e1
    simp only[Aa,Ab] at e1
    obtain⟨rfl,rfl⟩:=e1
    exact e2
 | als r p c s=>
  rw[hv] at h
  obtain⟨h0,h1,h2,h3⟩:=h
  simp only[rR]
  rw[hV j hj]
  refine⟨h0,?_⟩
  by_cases hr:r=i
  ·subst hr
   exact⟨Ao h1 hc,Ao h2 hs,hals p c s (V j) h1 h2 h3⟩
  ·refine⟨by rw[hg r hr];exact h1,by rw[hg r hr];exact h2,fun hok dr hdr=>?_⟩
   rw[hg r hr] at hdr
   have hok':okA g r c s=true:=by simp only[dU,hg r hr] at hok ⊢;exact hok
   obtain⟨cr,d,L,c',k1,k2,k3,k4,k5,k6,k7,k8⟩:=h3 hok' dr hdr
   have hr':=hR r
   rw[hdr] at hr'
   obtain⟨c2,hv2,hV2⟩:=hr'
   have:=uA (A4 (hV2.symm.trans k1)) (zO hv2) k2
   subst this
   obtain⟨L',c'',e1,e2,e3,e4,_⟩:=rO (w':=w') (L:=.reg c2) (fun b hb=>(hS b hb).2) (fun s b hb=>(hβ r s b hr (by simp[hdr]) hb).2) k3 k5 k4 (by simp[zD,k2]) (by simp[zD,k2]) hv2
   rw[k6] at e1
   simp only[Aa,Ab,Bc] at e1
   subst e1
   rw[k7] at e3
   simp only[Aa] at e3
   subst e3
   exact⟨c2,d,L,c',by rw[hV r hr];exact k1,k2,k3,k4,k5,e2,e4,k8⟩
 | pend r p c s u d=>
  rw[hv] at h
  obtain⟨h0,h1,h2,h3,h4⟩:=h
  simp only[rR]
  rw[hV j hj]
  refine⟨h0,?_⟩
  by_cases hr:r=i
  ·subst hr
   refine⟨Ao h1 hc,Ao h2 hs,by omega,fun hok=>?_⟩
   have:=(AQ7.1 hok).2
   omega
  ·refine⟨by rw[hg r hr];exact h1,by rw[hg r hr];exact h2,by rw[hg r hr];exact h3,fun hok dr hdr=>?_⟩
   rw[hg r hr] at hdr
   have hok':okU g r c s u=true:=by simp only[AQ7,hg r hr] at hok ⊢;exact hok
   obtain⟨k1,β2,cc,k2,k3,k4⟩:=h4 hok' dr hdr
   refine⟨k1,?_⟩
   have alive:∀ s b,β (r :: s)=some b→β' (r :: s)=some b∧w'.heap[b]?=w.heap[b]?:=fun s b hb=>hβ r s b hr (by simp[hdr]) hb
   rcases k2 with rfl|⟨b,hb,rfl⟩
   ·exact⟨β',cc,.inl rfl,zI hS (fun s b hb=>alive _ _ (by simpa using hb)) k3,k4⟩
   ·have hb':=hβ j [] b hj (by simp[hv]) hb
    refine⟨repl β' (r :: xA p) j b,cc,.inr ⟨b,hb'.1,rfl⟩,zI hS (fun s b2 hb2=>?_) k3,k4⟩
    unfold repl at hb2 ⊢
    split at hb2
    ·rename_i e
     simp only[Aa] at hb2;subst hb2
     rw[Ar e];exact⟨rfl,hb'.2⟩
    ·rename_i e
     rw[Aq e]
     split at hb2
     ·cases hb2
     ·rename_i e'
      rw[Aq e']
      exact alive _ _ (by simpa using hb2)
 | clo f rs=>
  rw[hv] at h
  obtain⟨h1,h2⟩:=h
  simp only[rR]
  rw[hV j hj]
  have hmem:∀ x ∈ rs,(g x.1).s≤(g' x.1).s:=fun x _=>by
   by_cases hx:x.1=i
   ·rw[hx];exact hs
   ·rw[hg _ hx];exact Ai _
  refine⟨fun x hx=>⟨(h1 x hx).1,Ao (h1 x hx).2 (hmem x hx)⟩,fun hall vs hvs=>?_⟩
  have hall':∀ x ∈ rs,(g x.1).s=x.2:=fun x hx=>by have a:=(h1 x hx).2;have b:=hmem x hx;have c:=hall x hx;omega
  refine h2 hall' vs ?_
  rw[← hvs]
  refine AH fun x hx=>?_
  by_cases e:x.1=i
  ·rcases hclo with hc|hc
   ·rw[e];exact hc.symm
   ·have a:=hall' x hx;have b:=hall x hx
    rw[e] at a b;omega
  ·exact (hV _ e).symm
theorem sQ {u:Up} {j:Nat} (h:j≠u.slot):g.up u j=g j:=by
 simp[zW.up,A2,h]
theorem pF {u:Up}:g.up u u.slot=u.on (g u.slot):=by
 simp[zW.up]
theorem Rel.put {i:Nat} {v:SV} (h:Rel H N g V w S β) (hs:Sane w' S' β') (hS:∀ b,S b→S' b∧w'.heap[b]?=w.heap[b]?)
  (hβ:∀ j s b,j≠i→(g j).sv≠.dead→β (j :: s)=some b→β' (j :: s)=some b∧w'.heap[b]?=w.heap[b]?)
  {V':Nat→Option Value} (hV:∀ j,j≠i→V' j=V j)
  (hn:rR H N (g.up (.put i v)) V' w' S' β' i v):Rel H N (g.up (.put i v)) V' w' S' β':=by
 have e:∀ s:Slot,Up.on (.put i v) s=⟨v,s.c+1,s.s+1,s.u+1⟩:=fun s=>rfl
 have e':(g.up (.put i v)) i=⟨v,(g i).c+1,(g i).s+1,(g i).u+1⟩:=pF (u:=.put i v)
 refine⟨hs,fun j=>?_⟩
 by_cases hj:j=i
 ·subst hj;rw[e'];exact hn
 ·have hg:∀ j,j≠i→g.up (.put i v) j=g j:=fun j hj=>sQ hj
  rw[hg j hj]
  refine A5w h.slots hS hβ hg hV (by rw[e'];simp) (by rw[e'];simp) (by rw[e'];simp) ?_ ?_ (.inr (by rw[e'];simp)) hj
  ·intro p c s v _ h2 _ hok
   have:=(iX.1 hok).1
   rw[e'] at this;simp at this;omega
  ·intro p c s v _ h2 _ hok
   have:=(dU.1 hok).2
   rw[e'] at this;simp at this;omega
theorem Rel.mod {i:Nat} {dr d:Dat} (h:Rel H N g V w S β) (hdr:(g i).sv=.dat dr) (ht:d.t=dr.t) (hs:Sane w' S' β') (hS:∀ b,S b→S' b∧w'.heap[b]?=w.heap[b]?)
  (hβ:∀ j s b,j≠i→(g j).sv≠.dead→β (j :: s)=some b→β' (j :: s)=some b∧w'.heap[b]?=w.heap[b]?)
  (hn:rR H N (g.up (.mod i (.dat d))) V w' S' β' i (.dat d)):Rel H N (g.up (.mod i (.dat d))) V w' S' β':=by
 have e':(g.up (.mod i (.dat d))) i=⟨.dat d,(g i).c+1,(g i).s,(g i).u+1⟩:=pF (u:=.mod i (.dat d))
 refine⟨hs,fun j=>?_⟩
 by_cases hj:j=i
 ·subst hj;rw[e'];exact hn
 ·have hg:∀ j,j≠i→g.up (.mod i (.dat d)) j=g j:=fun j hj=>sQ hj
  rw[hg j hj]
  refine A5w h.slots hS hβ hg (fun _ _=>rfl) (by rw[e'];simp) (by rw[e'];exact Ai _) (by rw[e'];simp) ?_ ?_ (.inl rfl) hj
  ·intro p c s v h1 h2 h3 hok
   have hk:=iX.1 hok
   rw[e'] at hk
   simp only at hk
   have hb:jG p=true:=by
    rcases hk.2 with hb|hb
    ·exact hb
    ·omega
   intro d2 hd2
   rw[e'] at hd2
   simp only[SV.dat.injEq] at hd2
   subst hd2
   obtain⟨cr,t,b,o,k1,k2,k3,k4,k5,_⟩:=h3 (iX.2 ⟨hk.1,.inl hb⟩) dr hdr
   obtain⟨td,xd,fd⟩:=d
   simp only at ht
   subst ht
   exact⟨cr,t,b,o,k1,k2,by rw[AB1 (w':=w) hb];exact k3,k4,A5u hb k5,fun hb'=>by rw[hb] at hb';cases hb'⟩
  ·intro p c s v h1 h2 h3 hok
   have:=(dU.1 hok).1
   rw[e'] at this;simp at this;omega
theorem Rel.pub {i:Nat} {dr:Dat} {f:Fl} (h:Rel H N g V w S β) (hdr:(g i).sv=.dat dr) (hs:Sane w' S' β') (hS:∀ b,S b→S' b∧w'.heap[b]?=w.heap[b]?)
  (hβ:∀ j s b,j≠i→(g j).sv≠.dead→β (j :: s)=some b→β' (j :: s)=some b∧w'.heap[b]?=w.heap[b]?)
  (hp:∀ p d L cr c,yJ p dr.t dr.f dr.x=some d→d.f.base≠.gone→inB p dr.t dr.x→V i=some (zV dr.t cr)→zN S β H w [i] dr.t dr.f dr.x cr→vF w dr.t (.reg cr) p=some (d.t,L)→zD w d.t.size L=some c →
   (∃ f',yJ p dr.t f dr.x=some ⟨d.t,d.x,f'⟩∧f'.base≠.gone)∧vF w' dr.t (.reg cr) p=some (d.t,L)∧zD w' d.t.size L=some c)
  (hn:rR H N (g.up (.pub i (.dat ⟨dr.t,dr.x,f⟩))) V w' S' β' i (.dat ⟨dr.t,dr.x,f⟩)):Rel H N (g.up (.pub i (.dat ⟨dr.t,dr.x,f⟩))) V w' S' β':=by
 have e':(g.up (.pub i (.dat ⟨dr.t,dr.x,f⟩))) i=⟨.dat ⟨dr.t,dr.x,f⟩,(g i).c,(g i).s,(g i).u+1⟩:=pF (u:=.pub i (.dat ⟨dr.t,dr.x,f⟩))
 refine⟨hs,fun j=>?_⟩
 by_cases hj:j=i
 ·subst hj;rw[e'];exact hn
 ·have hg:∀ j,j≠i→g.up (.pub i (.dat ⟨dr.t,dr.x,f⟩)) j=g j:=fun j hj=>sQ hj
  rw[hg j hj]
  have hi:=h.slots i
  rw[hdr] at hi
  refine A5w h.slots hS hβ hg (fun _ _=>rfl) (by rw[e'];exact Ai _) (by rw[e'];exact Ai _) (by rw[e'];simp) ?_ ?_ (.inl rfl) hj
  ·intro p c s v h1 h2 h3 hok d2 hd2
   have hk:=iX.1 hok
   rw[e'] at hk hd2
   simp only[SV.dat.injEq] at hd2
   subst hd2
   obtain⟨cr,t,b,o,k1,k2,k3,k4,k5,k6⟩:=h3 (iX.2 hk) dr hdr
   cases hb:jG p with
   | true=>exact⟨cr,t,b,o,k1,k2,by rw[AB1 (w':=w) hb];exact k3,k4,k5,fun hb'=>by cases hb'⟩
   | false=>
    obtain⟨d,hd1,hd2⟩:=k6 hb
    obtain⟨cr',L,c',q1,q2,q3,q4,q5,_⟩:=hi.at hd1 k5 hd2
    have:=uA (A4 (q1.symm.trans k1)) q2 k2
    subst this
    obtain⟨⟨f',hf1,hf2⟩,hw',hc'⟩:=hp p d L cr' c' hd1 hd2 k5 q1 q3 q4 q5
    rw[k3] at q4
    simp only[Aa,Ab] at q4
    obtain⟨rfl,rfl⟩:=q4
    exact⟨cr',d.t,b,o,k1,k2,hw',k4,k5,fun _=>⟨_,hf1,hf2⟩⟩
  ·intro p c s v h1 h2 h3 hok d2 hd2
   have hk:=dU.1 hok
   rw[e'] at hk hd2
   simp only[SV.dat.injEq] at hd2
   subst hd2
   obtain⟨cr,d,L,c',k1,k2,k3,k4,k5,k6,k7,k8⟩:=h3 (dU.2 hk) dr hdr
   obtain⟨cr',L',c'',q1,q2,q3,q4,q5,_⟩:=hi.at k3 k5 k4
   have:=uA (A4 (q1.symm.trans k1)) q2 k2
   subst this
   obtain⟨⟨f',hf1,hf2⟩,hw',hc'⟩:=hp p d L cr' c' k3 k4 k5 q1 q3 k6 k7
   exact⟨cr',⟨d.t,d.x,f'⟩,L,c',k1,k2,hf1,hf2,k5,hw',hc',k8⟩
end
end Go.Rf

end
section
namespace Go.Rf
set_option linter.unusedSectionVars false
variable [T:Laid]
def Sub (g σ:zW):Prop:=∀ i,(g i).sv=.dead∨σ i=g i
section
variable {g σ:zW}
theorem Sub.get (h:Sub g σ) {i:Nat} {v:SV} (hv:(g i).sv=v) (hn:v≠.dead):σ i=g i:=(h i).resolve_left (fun e=>hn (hv.symm.trans e))
theorem Sub.sv (h:Sub g σ) {x:Operand} {v:SV} (hv:sv g x=v) (hn:v≠.dead):sv σ x=v:=by
 unfold Rf.sv at hv ⊢
 split at hv<;>first|exact hv|skip
 rw[h.get hv hn];exact hv
theorem Sub.atP (h:Sub g σ) {r:Nat} {p:List PS} {d:Dat} (hd:atP g r p=some d):atP σ r p=some d∧σ r=g r:=by
 unfold Rf.atP at hd ⊢
 split at hd
 ·rename_i e he
  have:=h.get he (by simp)
  rw[this,he];exact⟨hd,rfl⟩
 ·cases hd
theorem Sub.okA {r c s:Nat} (hr:σ r=g r):okA σ r c s=okA g r c s:=by unfold Rf.okA;rw[hr]
theorem Sub.okU {r c s u:Nat} (hr:σ r=g r):okU σ r c s u=okU g r c s u:=by unfold Rf.okU;rw[Sub.okA hr,hr]
theorem Sub.okB {r c s:Nat} {p:List PS} (hr:σ r=g r):okB σ r p c s=okB g r p c s:=by unfold Rf.okB;rw[hr]
theorem Sub.upD (h:Sub g σ) {s:Nat}:Sub (g.up (.put s .dead)) (σ.up (.put s .dead)):=fun i=>by
 by_cases e:i=s
 ·left;subst e;rw[show g.up (.put i .dead) i=_ from pF (u:=.put i .dead)];rfl
 ·rw[sQ (u:=.put s .dead) e,sQ (u:=.put s .dead) e];exact h i
theorem Sub.up (h:Sub g σ) {u:Up} (hu:(g u.slot).sv≠.dead):Sub (g.up u) (σ.up u):=fun i=>by
 by_cases e:i=u.slot
 ·right;subst e;rw[pF,pF,h.get rfl hu]
 ·rw[sQ e,sQ e];exact h i
theorem lX {r:Nat} {p:List PS} {d:Dat} (h:atP g r p=some d):∃ e,(g r).sv=.dat e∧yJ p e.t e.f e.x=some d:=by
 unfold atP at h
 split at h
 ·rename_i e he;exact⟨e,he,h⟩
 ·cases h
end
theorem rD:∀ {p q:List PS} {t:Ty} {f:Fl} {x:t.D} {d:Dat},yJ p t f x=some d→yJ (p++q) t f x=yJ q d.t d.f d.x
 | [],_,_,_,_,_,h=>by simp only[yJ,Aa] at h;subst h;rfl
 | .fst :: p,_,.pair a _,f,_,d,h=>by simp only[yJ,Ad] at h ⊢;exact rD h
 | .snd :: p,_,.pair a _,f,_,d,h=>by simp only[yJ,Ad] at h ⊢;exact rD h
 | .der :: p,_,.ptr _,f,_,d,h=>by simp only[yJ,Ad] at h ⊢;exact rD h
 | .idx i :: p,_,.arr _ _,f,_,d,h=>by simp only[yJ,Ad] at h ⊢;exact rD h
 | .elm i :: p,_,.sl _,f,_,d,h=>by simp only[yJ,Ad] at h ⊢;exact rD h
theorem pR:∀ {p q:List PS} {t:Ty} {f:Fl} {x:t.D} {d:Dat},yJ p t f x=some d→inB p t x→inB q d.t d.x→inB (p++q) t x
 | [],_,_,_,_,_,h,_,k=>by simp only[yJ,Aa] at h;subst h;exact k
 | .fst :: p,_,.pair a _,f,_,d,h,h',k=>by simp only[yJ,Ad,inB] at h h' ⊢;exact pR h h' k
 | .snd :: p,_,.pair a _,f,_,d,h,h',k=>by simp only[yJ,Ad,inB] at h h' ⊢;exact pR h h' k
 | .der :: p,_,.ptr _,f,_,d,h,h',k=>by simp only[yJ,Ad,inB] at h h' ⊢;exact pR h h' k
 | .idx i :: p,_,.arr _ _,f,_,d,h,h',k=>by simp only[yJ,Ad,inB] at h h' ⊢;exact⟨h'.1,pR h h'.2 k⟩
 | .elm i :: p,_,.sl _,f,_,d,h,h',k=>by simp only[yJ,Ad,inB] at h h' ⊢;exact⟨h'.1,pR h h'.2 k⟩
theorem mY {w:World}:∀ {p q:List PS} {t t':Ty} {L L':Loc},vF w t L p=some (t',L')→vF w t L (p++q)=vF w t' L' q
 | [],_,_,_,_,_,h=>by simp only[vF,Aa,Ab] at h;obtain⟨rfl,rfl⟩:=h;rfl
 | s :: p,q,t,t',L,L',h=>by
  simp only[vF,Ad] at h ⊢
  split at h
  ·rename_i t1 L1 he;exact mY h
  ·cases h
theorem AS8:∀ {p q:List PS},jumps (p++q)=(jumps p || jumps q)
 | [],q=>by simp[jumps]
 | s :: p,q=>by simp[jumps,AS8 (p:=p) (q:=q),Bool.or_assoc]
theorem AT1 {p q:List PS} (h:jG p=true) (hq:jumps q=false):jG (p++q)=true:=by
 cases p with
 | nil=>simp[jG] at h
 | cons s p=>cases s<;>simp_all[jG,AS8]
theorem AO7 {w:World}:∀ {p:List PS} {t:Ty} {f:Fl} {x:t.D} {d:Dat} {t':Ty} {L L':Loc},yJ p t f x=some d→vF w t L p=some (t',L')→t'=d.t
 | [],_,_,_,_,_,_,_,h,k=>by simp only[yJ,Aa,vF,Ab] at h k;subst h;exact k.1.symm
 | .fst :: p,.pair a _,f,_,d,_,_,_,h,k=>by simp only[yJ,vF,xJ] at h k;exact AO7 h k
 | .snd :: p,.pair a _,f,_,d,_,_,_,h,k=>by simp only[yJ,vF,xJ] at h k;exact AO7 h k
 | .der :: p,.ptr t,f,_,d,_,_,_,h,k=>by
  simp only[yJ,vF,xJ] at h k
  split at k
  ·rename_i t1 L1 he
   split at he
   ·simp only[Aa,Ab] at he;obtain⟨rfl,rfl⟩:=he;exact AO7 h k
   ·cases he
  ·cases k
 | .idx i :: p,.arr _ _,f,_,d,_,_,_,h,k=>by
  simp only[yJ,vF,xJ] at h k
  split at k
  ·rename_i t1 L1 he
   split at he
   ·simp only[Aa,Ab] at he;obtain⟨rfl,rfl⟩:=he;exact AO7 h k
   ·cases he
  ·cases k
 | .elm i :: p,.sl _,f,_,d,_,_,_,h,k=>by
  simp only[yJ,vF,xJ] at h k
  split at k
  ·rename_i t1 L1 he
   split at he
   ·split at he
    ·simp only[Aa,Ab] at he;obtain⟨rfl,rfl⟩:=he;exact AO7 h k
    ·cases he
   ·cases he
  ·cases k
def evl (V:Nat→Option Value):Operand→Option Value
 | .tmp s=>V s
 | .const v=>some v
 | .func f=>some (.func (.func f) #[] #[])
 | .global _=>none
section
variable {H:Nat→Option (List Value)} {N:Nat} {g g':zW} {V V':Nat→Option Value} {w w':World} {S S':Nat→Prop} {β β':Key→Option Nat}
theorem Rel.kill {i:Nat} (h:Rel H N g V w S β) (hV:∀ j,j≠i→V' j=V j):Rel H N (g.up (.put i .dead)) V' w S β:=
 h.put h.sane (fun b hb=>⟨hb,rfl⟩) (fun j s b _ _ hb=>⟨hb,rfl⟩) hV trivial
theorem Rel.dat (h:Rel H N g V w S β) {i:Nat} {d:Dat} (hd:(g i).sv=.dat d):rR H N g V w S β i (.dat d):=by have:=h.slots i;rwa [hd] at this
theorem Rel.fin (h:Rel H N g V w S β) (h1:∀ i,i < N→g' i=g i) (h2:∀ i,N≤i→(g' i).sv=.dead) (h3:∀ i,i < N→V' i=V i):Rel H N g' V' w S β:=by
 refine⟨h.sane,fun i=>?_⟩
 by_cases hi:i < N
 ·have hs:=h.slots i
  rw[h1 i hi]
  cases hv:(g i).sv with
  | dead=>trivial
  | nils=>rw[hv] at hs;exact hs
  | und=>rw[hv] at hs;simp only[rR] at hs ⊢;rw[h3 i hi];exact hs
  | unk=>rw[hv] at hs;simp only[rR] at hs ⊢;rw[h3 i hi];exact hs
  | dat d=>rw[hv] at hs;simp only[rR] at hs ⊢;rw[h3 i hi];exact hs
  | tup d=>rw[hv] at hs;simp only[rR] at hs ⊢;rw[h3 i hi];exact hs
  | adr r p c s=>
   rw[hv] at hs;simp only[rR] at hs ⊢
   obtain⟨k0,k1,k2,k3⟩:=hs
   have hr:=h1 r k0
   refine⟨k0,by rw[hr];exact k1,by rw[hr];exact k2,fun ok=>?_⟩
   rw[Sub.okB hr] at ok
   intro dr hdr
   rw[hr] at hdr
   have:=k3 ok dr hdr
   rw[h3 r k0,h3 i hi]
   exact this
  | als r p c s=>
   rw[hv] at hs;simp only[rR] at hs ⊢
   obtain⟨k0,k1,k2,k3⟩:=hs
   have hr:=h1 r k0
   refine⟨k0,by rw[hr];exact k1,by rw[hr];exact k2,fun ok=>?_⟩
   rw[Sub.okA hr] at ok
   intro dr hdr
   rw[hr] at hdr
   have:=k3 ok dr hdr
   rw[h3 r k0,h3 i hi]
   exact this
  | pend r p c s u d=>
   rw[hv] at hs;simp only[rR] at hs ⊢
   obtain⟨k0,k1,k2,k3,k4⟩:=hs
   have hr:=h1 r k0
   refine⟨k0,by rw[hr];exact k1,by rw[hr];exact k2,by rw[hr];exact k3,fun ok=>?_⟩
   rw[Sub.okU hr] at ok
   intro dr hdr
   rw[hr] at hdr
   have:=k4 ok dr hdr
   rw[h3 i hi]
   exact this
  | clo f rs=>
   rw[hv] at hs;simp only[rR] at hs ⊢
   obtain⟨k1,k2⟩:=hs
   refine⟨fun x hx=>⟨(k1 x hx).1,by rw[h1 _ (k1 x hx).1];exact (k1 x hx).2⟩,fun hall vs hvs=>?_⟩
   rw[h3 i hi]
   refine k2 (fun x hx=>by rw[← h1 _ (k1 x hx).1];exact hall x hx) vs ?_
   rw[← hvs]
   exact AH fun x hx=>(h3 _ (k1 x hx).1).symm
 ·rw[h2 i (by omega)];trivial
theorem AW3 {t:Ty} {s:Key}:sB t .sh s=false:=by cases t<;>simp[sB,Fl.base]
theorem A68 (g h:Fl):(g=.sh∧h=.sh∧Fl.mkpr g h=.sh)∨Fl.mkpr g h=.pr g h:=by
 unfold Fl.mkpr;split
 ·exact .inl ⟨rfl,rfl,rfl⟩
 ·exact .inr rfl
theorem BD3 (g:Fl):(g=.sh∧Fl.mkar g=.sh)∨Fl.mkar g=.ar g:=by
 unfold Fl.mkar;split
 ·exact .inl ⟨rfl,rfl⟩
 ·exact .inr rfl
theorem A5i {a b:Ty} {f g h:Fl} {s:Key}:sB (.pair a b) (Fl.wrap f (.mkpr g h)) (0 :: s)=sB a g s:=by
 simp only[sB,uC,A0q]
 rcases A68 g h with ⟨e1,e2,e⟩| e<;>rw[e]
 rw[e1,AW3]
theorem A6X {a b:Ty} {f g h:Fl} {s:Key}:sB (.pair a b) (Fl.wrap f (.mkpr g h)) (1 :: s)=sB b h s:=by
 simp only[sB,uC,A0q]
 rcases A68 g h with ⟨e1,e2,e⟩| e<;>rw[e]
 rw[e2,AW3]
theorem A6t {n i:Nat} {t:Ty} {f g:Fl} {s:Key}:sB (.arr n t) (Fl.wrap f (.mkar g)) (i :: s)=sB t g s:=by
 simp only[sB,uC,A69]
 rcases BD3 g with ⟨e1,e⟩| e<;>rw[e]
 rw[e1,AW3]
theorem Al4 {f g:Fl}:(A0x f g).base=.sh∨(A0x f g).base=.own g:=by
 unfold A0x;split
 ·exact .inl rfl
 ·exact .inr rfl
theorem iC:∀ {p:List PS} {t:Ty} {f:Fl} {x:t.D} {d:Dat} {s:Key},yJ p t f x=some d→sB t (kD p f .sh) (xA p++s)=false
 | [],t,f,x,d,s,h=>by simp only[kD,xA];exact AW3
 | .fst :: p,.pair a b,f,x,d,s,h=>by
  simp only[yJ] at h
  simp only[kD,xA,Ad,A5i]
  exact iC h
 | .snd :: p,.pair a b,f,x,d,s,h=>by
  simp only[yJ] at h
  simp only[kD,xA,Ad,A6X]
  exact iC h
 | .idx i :: p,.arr n t,f,x,d,s,h=>by
  simp only[yJ] at h
  simp only[kD,xA,Ad,A6t]
  exact iC h
 | .der :: p,.ptr t,f,x,d,s,h=>by
  simp only[yJ] at h
  have ih:=iC (s:=s) h
  simp only[kD,xA,Ad,sB,uC]
  rcases Al4 (f:=f) (g:=kD p f.e .sh) with e|e<;>rw[e]
  exact ih
 | .elm i :: p,.sl t,f,x,d,s,h=>by
  simp only[yJ] at h
  have ih:=iC (s:=s) h
  simp only[kD,xA,Ad,sB,uC]
  rcases Al4 (f:=f) (g:=kD p f.e .sh) with e|e<;>rw[e]
  exact ih
def BF6 (S:Nat→Prop) (β:Key→Option Nat) (r:Nat) (t:Ty) (f:Fl):Nat→Prop:=fun b=>S b∨∃ s,β (r :: s)=some b∧sB t f s=false
def A3W (β:Key→Option Nat) (r:Nat) (t:Ty) (f:Fl):Key→Option Nat
 | j :: s=>if j=r∧sB t f s=false then none else β (j :: s)
 | []=>β []
theorem AA3 {r:Nat} {t:Ty} {f:Fl} {k:Key} {b:Nat} (h:A3W β r t f k=some b):β k=some b:=by
 cases k with
 | nil=>exact h
 | cons j s=>simp only[A3W] at h;split at h;cases h;exact h
theorem Sane.pub (h:Sane w S β) (r:Nat) (t:Ty) (f:Fl):Sane w (BF6 S β r t f) (A3W β r t f) where
 tab:=h.tabs fun b hb=>⟨.inl hb,rfl⟩
 inj k k' b h1 h2:=h.inj k k' b (AA3 h1) (AA3 h2)
 sep k b h1 h2:=by
  rcases h2 with h2|⟨s,h2,h3⟩
  ·exact h.sep k b (AA3 h1) h2
  ·have:=h.inj _ _ _ (AA3 h1) h2
   subst this
   simp[A3W,h3] at h1
 live k b h1:=h.live k b (AA3 h1)
 liveS b hb:=by
  rcases hb with hb|⟨s,hb,_⟩
  ·exact h.liveS b hb
  ·exact h.live _ b hb
theorem Step.pub (r:Nat) (t:Ty) (f:Fl):Step w S β w (BF6 S β r t f) (A3W β r t f) where
 size:=Ai _
 old _ _ _:=rfl
 new k b hb:=.inl ⟨k,AA3 hb⟩
 keepS _ hb:=.inl hb
 newS b hb:=hb.elim .inl fun ⟨s,h,_⟩=>.inr (.inl ⟨_,h⟩)
 out:=.rfl'
theorem Rel.weaken {r:Nat} {e:Dat} {f:Fl} (h:Rel H N g V w S β) (he:(g r).sv=.dat e) (hf:Fl.le f e.f=true)
  (hp:∀ p d,yJ p e.t e.f e.x=some d→d.f.base≠.gone→∃ f',yJ p e.t f e.x=some ⟨d.t,d.x,f'⟩∧f'.base≠.gone):
  Rel H N (g.up (.pub r (.dat ⟨e.t,e.x,f⟩))) V w (BF6 S β r e.t f) (A3W β r e.t f):=by
 refine h.pub he (h.sane.pub r e.t f) (fun b hb=>⟨.inl hb,rfl⟩) (fun j s b hj _ hb=>⟨by simp[A3W,hj,hb],rfl⟩) (fun p d L cr c h1 h2 _ _ _ h4 h5=>⟨hp p d h1 h2,h4,h5⟩) ?_
 obtain⟨c,hv,hV⟩:=h.dat he
 refine⟨c,?_,hV⟩
 refine bP (fun b hb=>⟨.inl hb,rfl⟩) hf (fun s b hb=>⟨rfl,fun ho=>?_,fun ho=>.inr ⟨s,hb,ho⟩⟩) hv
 simp only[Ad,Aw] at hb ⊢
 simp[A3W,ho,hb]
theorem Rel.publish {r:Nat} {p:List PS} {e d:Dat} (h:Rel H N g V w S β) (he:(g r).sv=.dat e) (hg:yJ p e.t e.f e.x=some d) (hw:d.f.whole=true):
  Rel H N (g.up (.pub r (.dat ⟨e.t,e.x,kD p e.f .sh⟩))) V w (BF6 S β r e.t (kD p e.f .sh)) (A3W β r e.t (kD p e.f .sh)):=
 h.weaken he (AR2 hg (fR hw) (by rw[A4J];exact hw)) (fun _ _ h1 h2=>fT hg (fR hw) h1 h2)
theorem Ar3 {r:Nat} {p:List PS} {e d:Dat} {c:List Value} (hg:yJ p e.t e.f e.x=some d) (hw:d.f.whole=true) (hv:zN S β H w (r :: xA p) d.t d.f d.x c):
  Rd (BF6 S β r e.t (kD p e.f .sh)) w d.t d.x c:=
 wY hw (fun _=>.inl) (fun s b hb=>.inr ⟨xA p++s,by simpa using hb,iC hg⟩) hv
def rekey (β:Key→Option Nat) (src dst:Key):Key→Option Nat:=fun k=>
 match sA dst k with
 | some s=>β (src++s)
 | none=>match sA src k with
  | some _=>none
  | none=>β k
theorem Ab8 {src dst s:Key}:rekey β src dst (dst++s)=β (src++s):=by simp[rekey,A0V]
theorem xX {src dst k:Key} (h1:sA dst k=none) (h2:sA src k=none):rekey β src dst k=β k:=by simp[rekey,h1,h2]
theorem AH5 {src dst k:Key} {b:Nat} (h:rekey β src dst k=some b):(∃ s,k=dst++s∧β (src++s)=some b)∨(sA dst k=none∧sA src k=none∧β k=some b):=by
 unfold rekey at h
 split at h
 ·rename_i s hs;exact .inl ⟨s,pU.1 hs,h⟩
 ·rename_i h1
  split at h
  ·cases h
  ·rename_i h2;exact .inr ⟨h1,h2,h⟩
theorem AZ2 {src dst k:Key} {b:Nat} (h:rekey β src dst k=some b):∃ k',β k'=some b:=by
 rcases AH5 h with ⟨s,_,h⟩| ⟨_,_,h⟩<;>exact⟨_,h⟩
theorem Sane.rekey (h:Sane w S β) (src dst:Key):Sane w S (rekey β src dst) where
 tab:=h.tab
 inj k k' b h1 h2:=by
  rcases AH5 h1 with ⟨s,e,q1⟩| ⟨a1,a2,q1⟩<;>rcases AH5 h2 with ⟨s',e',q2⟩| ⟨b1,b2,q2⟩
  ·have:=h.inj _ _ _ q1 q2;rw[List.append_cancel_left_eq] at this;rw[e,e',this]
  ·exact absurd (h.inj _ _ _ q2 q1) (iI b2 s)
  ·exact absurd (h.inj _ _ _ q1 q2) (iI a2 s')
  ·exact h.inj _ _ _ q1 q2
 sep k b h1:=let ⟨k',h'⟩:=AZ2 h1;h.sep k' b h'
 live k b h1:=let ⟨k',h'⟩:=AZ2 h1;h.live k' b h'
 liveS:=h.liveS
theorem Step.rekey (src dst:Key):Step w S β w S (rekey β src dst) where
 size:=Ai _
 old _ _ _:=rfl
 new _ _ hb:=.inl (AZ2 hb)
 keepS _ hb:=hb
 newS _ hb:=.inl hb
 out:=.rfl'
theorem zZ {j r:Nat} {s k:Key} (h:j≠r):sA (r :: k) (j :: s)=none:=by simp[sA,AW h]
end
end Go.Rf

end
section
namespace Go.Rf
set_option linter.unusedSectionVars false
variable [T:Laid]
theorem zW.up_comm {g:zW} {u v:Up} (h:u.slot≠v.slot):(g.up u).up v=(g.up v).up u:=by
 funext i
 by_cases h1:i=v.slot
 ·have h2:i≠u.slot:=fun e=>h (e.symm.trans h1)
  subst h1
  rw[pF,sQ h2,sQ h2,pF]
 ·rw[sQ h1]
  by_cases h2:i=u.slot
  ·subst h2;rw[pF,pF,sQ h1]
  ·rw[sQ h2,sQ h2,sQ h1]
section
variable {g σ:zW} (hs:Sub g σ)
include hs
theorem fN {mv:Bool} {t:Option Ty} {x:Operand} {d:Dat} {us:List Up} (h:take g mv t x (sv g x)=some (d,us)):
  take σ mv t x (sv σ x)=some (d,us)∧Sub (g.ups us) (σ.ups us):=by
 cases hv:sv g x with
 | dead=>rw[hv] at h;simp[take] at h
 | und=>rw[hv] at h;simp[take] at h
 | unk=>rw[hv] at h;simp[take] at h
 | tup d=>rw[hv] at h;simp[take] at h
 | adr _ _ _ _=>rw[hv] at h;simp[take] at h
 | nils=>
  rw[hs.sv hv (by simp)]
  rw[hv] at h
  refine⟨h,?_⟩
  simp only[take] at h
  split at h
  ·simp only[Aa,Ab] at h;rw[← h.2];exact hs
  ·cases h
 | clo f rs=>
  rw[hs.sv hv (by simp)]
  rw[hv] at h
  cases rs with
  | nil=>
   refine⟨h,?_⟩
   simp only[take,Aa,Ab] at h;rw[← h.2];exact hs
  | cons a rs=>simp[take] at h
 | dat e=>
  rw[hs.sv hv (by simp)]
  rw[hv] at h
  refine⟨h,?_⟩
  simp only[take] at h
  split at h
  ·simp only[Aa,Ab] at h;rw[← h.2];exact hs
  ·split at h
   ·split at h
    ·simp only[Aa,Ab] at h;rw[← h.2];exact hs.upD
    ·cases h
   ·cases h
 | als r p c s=>
  rw[hs.sv hv (by simp)]
  rw[hv] at h
  simp only[take] at h
  split at h
  ·rename_i hok
   split at h
   ·rename_i e he
    have hr:=hs.get he (by simp)
    simp only[take,Sub.okA hr,hok,Au,hr,he]
    refine⟨h,?_⟩
    split at h
    ·split at h
     ·simp only[Aa,Ab] at h;rw[← h.2];exact hs
     ·split at h
      ·split at h<;>simp only[Aa,Ab] at h<;>rw[← h.2]<;>exact hs.up (by simp[Up.slot,he])
      ·cases h
    ·cases h
   ·cases h
  ·cases h
 | pend r p c s u e=>
  rw[hs.sv hv (by simp)]
  rw[hv] at h
  simp only[take] at h
  split at h
  ·rename_i x j
   split at h
   ·rename_i hok
    split at h
    ·rename_i e' he
     have hr:=hs.get he (by simp)
     simp only[take,Sub.okU hr,hok,Au,hr,he]
     refine⟨h,?_⟩
     simp only[Aa,Ab] at h
     rw[← h.2]
     exact (hs.up (u:=.mod r (.dat ⟨e'.t,e'.x,kD p e'.f .gone⟩)) (by simp[Up.slot,he])).upD
    ·cases h
   ·cases h
  ·cases h
theorem uD {x:Operand} {d:Dat} (h:yK g (sv g x)=some d):yK σ (sv σ x)=some d:=by
 cases hv:sv g x with
 | dead=>rw[hv] at h;simp[yK] at h
 | und=>rw[hv] at h;simp[yK] at h
 | unk=>rw[hv] at h;simp[yK] at h
 | tup d=>rw[hv] at h;simp[yK] at h
 | adr _ _ _ _=>rw[hv] at h;simp[yK] at h
 | nils=>rw[hv] at h;simp[yK] at h
 | dat e=>rw[hs.sv hv (by simp)];rw[hv] at h;exact h
 | clo f rs=>
  rw[hs.sv hv (by simp)];rw[hv] at h
  simp only[yK,Ah] at h ⊢
  obtain⟨cs,h,rfl⟩:=h
  refine⟨cs,?_,rfl⟩
  clear hv
  revert cs
  induction rs with
  | nil=>intro cs h;exact h
  | cons a rs ih=>
   obtain⟨r,s⟩:=a
   intro cs h
   simp only[eJ] at h ⊢
   split at h
   ·rename_i k n f he
    rw[hs.get he (by simp),he]
    split at h
    ·rename_i hok
     simp only[Ah] at h
     obtain⟨cs',h,rfl⟩:=h
     simp only[hok,Au,ih _ h,Av]
    ·cases h
   ·rename_i k n f he
    rw[hs.get he (by simp),he]
    split at h
    ·rename_i hok
     simp only[Ah] at h
     obtain⟨cs',h,rfl⟩:=h
     simp only[hok,Au,ih _ h,Av]
    ·cases h
   ·cases h
 | als r p c s=>
  rw[hs.sv hv (by simp)];rw[hv] at h
  simp only[yK] at h ⊢
  split at h
  ·rename_i hok
   split at h
   ·rename_i e he
    obtain⟨he',hr⟩:=hs.atP he
    simp only[Sub.okA hr,hok,Au,he'];exact h
   ·cases h
  ·cases h
 | pend r p c s u e=>
  rw[hs.sv hv (by simp)];rw[hv] at h
  simp only[yK] at h ⊢
  split at h
  ·rename_i hok
   split at h
   ·rename_i e' he
    have hr:=hs.get he (by simp)
    simp only[Sub.okU hr,hok,Au,hr,he];exact h
   ·cases h
  ·cases h
theorem aP {x:Operand} {q:Pl} {d:Dat} (h:iU g x (sv g x)=some q) (hd:atP g q.1 q.2=some d):iU σ x (sv σ x)=some q∧atP σ q.1 q.2=some d∧σ q.1=g q.1:=by
 refine⟨?_,hs.atP hd⟩
 cases hv:sv g x with
 | dat e=>rw[hs.sv hv (by simp)];rw[hv] at h;exact h
 | als r p c s=>
  rw[hs.sv hv (by simp)];rw[hv] at h
  simp only[iU] at h ⊢
  split at h
  ·rename_i hok
   simp only[Aa] at h;subst h
   rw[Sub.okA (hs.atP hd).2,hok];rfl
  ·cases h
 | _=>rw[hv] at h;simp[iU] at h
theorem iT {x:Operand} {q:Pl} {d:Dat} (h:hP g x (sv g x)=some q) (hd:atP g q.1 q.2=some d):hP σ x (sv σ x)=some q∧atP σ q.1 q.2=some d∧σ q.1=g q.1:=by
 refine⟨?_,hs.atP hd⟩
 cases hv:sv g x with
 | dat e=>
  rw[hs.sv hv (by simp)];rw[hv] at h;obtain⟨t,y,f⟩:=e;cases t<;>exact h
 | adr r p c s=>
  rw[hs.sv hv (by simp)];rw[hv] at h
  simp only[hP] at h ⊢
  split at h
  ·rename_i hok
   simp only[Aa] at h;subst h
   rw[Sub.okB (hs.atP hd).2,hok];rfl
  ·cases h
 | als r p c s=>
  rw[hs.sv hv (by simp)];rw[hv] at h
  simp only[hP] at h ⊢
  split at h
  ·rename_i hok
   cases he:atP g r p with
   | none=>rw[he] at h;cases h
   | some e=>
    obtain⟨he',hr⟩:=hs.atP he
    rw[Sub.okA hr,hok,he'];rw[he] at h;exact h
  ·cases h
 | _=>rw[hv] at h;simp[hP] at h
end
theorem wW {f:Fl} (h:f.free=true):f=.sh:=by cases f<;>simp_all[Fl.free]
section
variable {H:Nat→Option (List Value)} {N:Nat} {g g':zW} {V V':Nat→Option Value} {w w':World} {S S':Nat→Prop} {β β':Key→Option Nat}
theorem pP {x:Operand} {d:Dat} (h:Rel H N g V w S β) (hd:sv g x=.dat d):
  (∃ s,x=.tmp s∧(g s).sv=.dat d)∨(d.f=.sh∧∃ c,evl V x=some (zV d.t c)∧Rd S w d.t d.x c):=by
 unfold sv at hd
 split at hd
 ·exact .inl ⟨_,rfl,hd⟩
 ·cases hd;exact .inr ⟨rfl,[.int _ _],rfl,by simp[Rd]⟩
 ·cases hd;exact .inr ⟨rfl,[.bool _],rfl,by simp[Rd]⟩
 ·cases hd
  rename_i s
  refine .inr ⟨rfl,[.string s],rfl,?_⟩
  simp only[Rd]
 ·cases hd
 ·cases hd;exact .inr ⟨rfl,[.nilFunc],rfl,by simp[Rd,Aw7]⟩
 ·cases hd
  rename_i f
  exact .inr ⟨rfl,[.func (.func f) #[] #[]],rfl,by simp only[Rd];exact⟨_,rfl,by simp only[Aw7];exact⟨[],rfl,by simp[qY]⟩⟩⟩
 ·cases hd
theorem vZ {x:Operand} {v:SV} (hd:sv g x=v) (h1:v≠.dead) (h2:v≠.nils) (h3:∀ d,v≠.dat d):∃ s,x=.tmp s∧(g s).sv=v:=by
 unfold sv at hd
 split at hd<;>first|exact⟨_,rfl,hd⟩| exact absurd hd.symm (h3 _)| exact absurd hd.symm h2|exact absurd hd.symm h1
theorem fZ {x:Operand} (hd:sv g x=.nils):(∃ s,x=.tmp s∧(g s).sv=.nils)∨x=.const (.slice none 0 0):=by
 unfold sv at hd
 split at hd<;>first|exact .inl ⟨_,rfl,hd⟩| exact .inr rfl|cases hd
theorem Rel.place (h:Rel H N g V w S β) {r:Nat} {p:List PS} {e d:Dat} (he:(g r).sv=.dat e) (hg:yJ p e.t e.f e.x=some d) (hb:inB p e.t e.x) (hn:d.f.base≠.gone):
  ∃ cr L c,V r=some (zV e.t cr)∧cr.length=e.t.size∧zN S β H w [r] e.t e.f e.x cr∧vF w e.t (.reg cr) p=some (d.t,L)∧zD w d.t.size L=some c∧zN S β H w (r :: xA p) d.t d.f d.x c:=(h.dat he).at hg hb hn
theorem Rel.als (h:Rel H N g V w S β) {i r c s:Nat} {p:List PS} {e d:Dat} (hi:(g i).sv=.als r p c s) (hok:okA g r c s=true) (he:(g r).sv=.dat e) (hg:yJ p e.t e.f e.x=some d):
  r < N∧inB p e.t e.x∧d.f.base≠.gone∧∃ cr L c',V r=some (zV e.t cr)∧cr.length=e.t.size∧zN S β H w [r] e.t e.f e.x cr∧vF w e.t (.reg cr) p=some (d.t,L)∧zD w d.t.size L=some c'∧zN S β H w (r :: xA p) d.t d.f d.x c'∧V i=some (zV d.t c'):=by
 have hs:=h.slots i
 rw[hi] at hs
 obtain⟨h0,_,_,hs⟩:=hs
 obtain⟨cr,d',L,c',k1,k2,k3,k4,k5,k6,k7,k8⟩:=hs hok e he
 rw[hg] at k3
 simp only[Aa] at k3
 subst k3
 obtain⟨cr',L',c'',q1,q2,q3,q4,q5,q6⟩:=h.place he hg k5 k4
 have:=uA (A4 (q1.symm.trans k1)) q2 k2
 subst this
 rw[k6] at q4
 simp only[Aa,Ab,Bc] at q4
 subst q4
 rw[k7] at q5
 simp only[Aa] at q5
 subst q5
 exact⟨h0,k5,k4,cr',L,c',k1,k2,q3,k6,k7,q6,k8⟩
theorem Sane.repl (h:Sane w S β) {k:Key} {i b:Nat} (hb:β [i]=some b):Sane w S (repl β k i b) where
 tab:=h.tab
 inj k1 k2 c h1 h2:=by
  unfold Rf.repl at h1 h2
  split at h1<;>split at h2
  ·rename_i e1 e2;rw[e1,e2]
  ·rename_i e1 e2
   split at h2
   ·cases h2
   ·rename_i e3
    cases h1
    exact absurd (h.inj _ _ _ h2 hb) e3
  ·rename_i e1 e2
   split at h1
   ·cases h1
   ·rename_i e3
    cases h2
    exact absurd (h.inj _ _ _ h1 hb) e3
  ·split at h1
   ·cases h1
   ·split at h2
    ·cases h2
    ·exact h.inj _ _ _ h1 h2
 sep k1 c h1:=by
  unfold Rf.repl at h1
  split at h1
  ·cases h1;exact h.sep _ _ hb
  ·split at h1
   ·cases h1
   ·exact h.sep _ _ h1
 live k1 c h1:=by
  unfold Rf.repl at h1
  split at h1
  ·cases h1;exact h.live _ _ hb
  ·split at h1
   ·cases h1
   ·exact h.live _ _ h1
 liveS:=h.liveS
theorem Step.repl {k:Key} {i b:Nat} (hb:β [i]=some b):Step w S β w S (repl β k i b) where
 size:=Ai _
 old _ _ _:=rfl
 new k1 c h1:=by
  unfold Rf.repl at h1
  split at h1
  ·cases h1;exact .inl ⟨_,hb⟩
  ·split at h1
   ·cases h1
   ·exact .inl ⟨_,h1⟩
 keepS _ h:=h
 newS _ h:=.inl h
 out:=.rfl'
def upN (g:zW) (n:Nat) (d:Dat):zW:=g.up (.put n (.dat d))
theorem Rel.hand (h:Rel H N g V w S β) {n:Nat} {d:Dat} {c:List Value} (hv:zN S β H w [n] d.t d.f d.x c):Rel H N (upN g n d) (upd V n (zV d.t c)) w S β:=
 h.put h.sane (fun b hb=>⟨hb,rfl⟩) (fun j s b _ _ hb=>⟨hb,rfl⟩) (fun j hj=>by simp[upd,hj]) ⟨c,hv,by simp[upd]⟩
theorem Rel.rekey (h:Rel H N g V w S β) {r n:Nat} (k:Key) (hr:(g r).sv=.dead) (hn:(g n).sv=.dead):Rel H N g V w S (Rf.rekey β (r :: k) [n]):=by
 refine⟨h.sane.rekey _ _,fun i=>?_⟩
 by_cases hi:(g i).sv=.dead
 ·rw[hi];trivial
 ·have e1:i≠r:=fun e=>hi (e▸hr)
  have:=Rel.put (i:=n) (v:=.dead) (V':=V) h (h.sane.rekey (r :: k) [n]) (fun b hb=>⟨hb,rfl⟩) (fun j s b hj ha hb=>⟨by
   have e2:j≠r:=fun e=>ha (e▸hr)
   rw[xX (zZ hj) (zZ e2)];exact hb,rfl⟩) (fun _ _=>rfl) trivial
  have e3:i≠n:=fun e=>hi (e▸hn)
  have hg:∀ j,j≠n→g.up (.put n .dead) j=g j:=fun j hj=>sQ (u:=.put n .dead) hj
  have hdead:((g.up (.put n .dead)) n).sv=.dead:=by rw[show g.up (.put n .dead) n=_ from pF (u:=.put n .dead)];rfl
  have hs:=this.slots i
  rw[hg i e3] at hs
  cases hv:(g i).sv with
  | dead=>trivial
  | nils=>rw[hv] at hs;exact hs
  | und=>rw[hv] at hs;exact hs
  | unk=>rw[hv] at hs;exact hs
  | dat d=>rw[hv] at hs;exact hs
  | tup d=>rw[hv] at hs;exact hs
  | adr q p c s=>
   rw[hv] at hs
   have ho:=h.slots i
   rw[hv] at ho
   obtain⟨k0,k1,k2,_⟩:=ho
   obtain⟨_,_,_,k3⟩:=hs
   refine⟨k0,k1,k2,fun ok dr hdr=>?_⟩
   have hq:q≠n:=fun e=>by rw[e,hn] at hdr;cases hdr
   have hq':=hg q hq
   exact k3 (by rw[Sub.okB hq'];exact ok) dr (by rw[hq'];exact hdr)
  | als q p c s=>
   rw[hv] at hs
   have ho:=h.slots i
   rw[hv] at ho
   obtain⟨k0,k1,k2,_⟩:=ho
   obtain⟨_,_,_,k3⟩:=hs
   refine⟨k0,k1,k2,fun ok dr hdr=>?_⟩
   have hq:q≠n:=fun e=>by rw[e,hn] at hdr;cases hdr
   have hq':=hg q hq
   exact k3 (by rw[Sub.okA hq'];exact ok) dr (by rw[hq'];exact hdr)
  | pend q p c s u d=>
   rw[hv] at hs
   have ho:=h.slots i
   rw[hv] at ho
   obtain⟨k0,k1,k2,k3,_⟩:=ho
   obtain⟨_,_,_,_,k4⟩:=hs
   refine⟨k0,k1,k2,k3,fun ok dr hdr=>?_⟩
   have hq:q≠n:=fun e=>by rw[e,hn] at hdr;cases hdr
   have hq':=hg q hq
   exact k4 (by rw[Sub.okU hq'];exact ok) dr (by rw[hq'];exact hdr)
  | clo f rs=>
   have ho:=h.slots i
   rw[hv] at ho
   exact ho
end
end Go.Rf

end
section
namespace Go.Rf
set_option linter.unusedSectionVars false
variable [T:Laid]
section
variable {H:Nat→Option (List Value)} {N:Nat} {g g':zW} {V V':Nat→Option Value} {w w':World} {S S':Nat→Prop} {β β':Key→Option Nat}
theorem Rel.moveOut (h:Rel H N g V w S β) {r n:Nat} {p:List PS} {e d:Dat} (he:(g r).sv=.dat e) (hg:yJ p e.t e.f e.x=some d) (hd:d.f.base≠.gone) (hp:cW p=false) (hn:(g n).sv=.dead):
  Rel H N (g.up (.mod r (.dat ⟨e.t,e.x,kD p e.f .gone⟩))) V w S (Rf.rekey β (r :: xA p) [n]):=by
 have hrn:r≠n:=fun e'=>by rw[e',hn] at he;cases he
 refine h.mod he rfl (h.sane.rekey _ _) (fun b hb=>⟨hb,rfl⟩) (fun j s b hj ha hb=>⟨?_,rfl⟩) ?_
 ·have hjn:j≠n:=fun e'=>ha (e' ▸ hn)
  rw[xX (zZ hjn) (zZ hj)];exact hb
 ·obtain⟨c,hv,hV⟩:=h.dat he
  refine⟨c,pA (fun b hb=>⟨hb,rfl⟩) hp hg hd (fun s b hs hb=>⟨?_,rfl⟩) hv,hV⟩
  simp only[Ad,Aw] at hb ⊢
  rw[xX (zZ hrn)]
  ·exact hb
  cases hst:sA (r :: xA p) (r :: s) with
  | none=>rfl
  | some s'=>
   have:=pU.1 hst
   simp only[Ad,Ax,Bc] at this
   exact absurd ⟨s',this.symm⟩ hs
theorem qH {src dst:Key} {t:Ty} {f:Fl} {x:t.D} {c:List Value} (hv:zN S β H w src t f x c):zN S (rekey β src dst) H w dst t f x c:=
 zI (fun b hb=>⟨hb,rfl⟩) (fun s b hb=>⟨by rw[Ab8];exact hb,rfl⟩) hv
theorem A3y.repl_or {i r:Nat} {p:List PS} {β2:Key→Option Nat} (h:β2=β∨∃ b,β [i]=some b∧β2=repl β (r :: xA p) i b) (hs:Sane w S β):Sane w S β2∧Step w S β w S β2:=by
 rcases h with rfl|⟨b,hb,rfl⟩
 ·exact⟨hs,.refl⟩
 ·exact⟨hs.repl hb,.repl hb⟩
theorem Rel.repl (h:Rel H N g V w S β) {i r:Nat} {p:List PS} {β2:Key→Option Nat} (hb:β2=β∨∃ b,β [i]=some b∧β2=repl β (r :: xA p) i b) (hi:(g i).sv=.dead) {d:Dat} (hr:(g r).sv=.dat d):
  Sane w S β2∧∀ j s b,j≠r→(g j).sv≠.dead→β (j :: s)=some b→β2 (j :: s)=some b:=by
 rcases hb with rfl|⟨b,hb,rfl⟩
 ·exact⟨h.sane,fun _ _ _ _ _ hb=>hb⟩
 ·refine⟨h.sane.repl hb,fun j s b' hj ha hb'=>?_⟩
  have hji:j≠i:=fun e=>ha (e▸hi)
  unfold Rf.repl
  rw[Aq (by simp[hj]),Aq (by simp[hji])];exact hb'
theorem jY {mv:Bool} {t:Option Ty} {x:Operand} {d:Dat} {us:List Up} {n:Nat} (h:Rel H N g V w S β) (ht:take g mv t x (sv g x)=some (d,us)) (hn:(g n).sv=.dead) (hN:N≤n):
  ∃ S' β' c,Rel H N (upN (g.ups us) n d) (upd V n (zV d.t c)) w S' β'∧Step w S β w S' β'∧evl V x=some (zV d.t c)∧c.length=d.t.size:=by
 cases hv:sv g x with
 | dead=>rw[hv] at ht;simp[take] at ht
 | und=>rw[hv] at ht;simp[take] at ht
 | unk=>rw[hv] at ht;simp[take] at ht
 | tup d=>rw[hv] at ht;simp[take] at ht
 | adr _ _ _ _=>rw[hv] at ht;simp[take] at ht
 | nils=>
  rw[hv] at ht
  simp only[take] at ht
  rcases fZ hv with ⟨s,rfl,hs⟩| rfl
  ·have:=h.slots s
   rw[hs] at this;exact this.elim
  ·split at ht
   ·rename_i τ
    simp only[Aa,Ab] at ht
    obtain⟨rfl,rfl⟩:=ht
    refine⟨S,β,[.slice none 0 0],h.hand ?_,.refl,rfl,rfl⟩
    simp only[zN,Fl.base,pN,Fl.pins]
    exact⟨by simp,none,0,rfl,by simp,.inl rfl⟩
   ·cases ht
 | clo f rs=>
  rw[hv] at ht
  obtain⟨s,rfl,hs⟩:=vZ hv (by simp) (by simp) (by simp)
  cases rs with
  | nil=>
   simp only[take,Aa,Ab] at ht
   obtain⟨rfl,rfl⟩:=ht
   have hss:=h.slots s
   rw[hs] at hss
   have:=hss.2 (by simp) [] rfl
   refine⟨S,β,[.func (.func f) #[] #[]],h.hand ?_,.refl,this,rfl⟩
   simp only[zN,Fl.base,pN,Fl.pins,Rd,Aw7]
   exact⟨by simp,_,rfl,[],rfl,by simp[qY]⟩
  | cons a rs=>simp[take] at ht
 | dat e=>
  rw[hv] at ht
  simp only[take] at ht
  rcases pP h hv with ⟨s,rfl,hs⟩| ⟨hf,c,hc,hrd⟩
  ·obtain⟨c,hvr,hV⟩:=h.dat hs
   split at ht
   ·rename_i hfr
    simp only[Aa,Ab] at ht
    obtain⟨rfl,rfl⟩:=ht
    refine⟨S,β,c,h.hand ?_,.refl,hV,zO hvr⟩
    rw[wW hfr] at hvr ⊢
    rw[yO] at hvr ⊢;exact hvr
   ·split at ht
    ·simp only[Aa,Ab] at ht
     obtain⟨rfl,rfl⟩:=ht
     have hns:n≠s:=fun e'=>by rw[e',hs] at hn;cases hn
     have h1:Rel H N (g.up (.put s .dead)) V w S β:=h.kill fun _ _=>rfl
     have hd1:((g.up (.put s .dead)) s).sv=.dead:=by rw[show g.up (.put s .dead) s=_ from pF (u:=.put s .dead)];rfl
     have hd2:((g.up (.put s .dead)) n).sv=.dead:=by rw[sQ (u:=.put s .dead) hns];exact hn
     have h2:=h1.rekey [] hd1 hd2
     exact⟨S,_,c,h2.hand (qH hvr),.rekey _ _,hV,zO hvr⟩
    ·cases ht
  ·split at ht
   ·simp only[Aa,Ab] at ht
    obtain⟨rfl,rfl⟩:=ht
    refine⟨S,β,c,h.hand ?_,.refl,hc,tC hrd⟩
    rw[hf,yO];exact hrd
   ·rename_i hfr;rw[hf] at hfr;simp[Fl.free] at hfr
 | als r p c s=>
  rw[hv] at ht
  obtain⟨i,rfl,hi⟩:=vZ hv (by simp) (by simp) (by simp)
  simp only[take] at ht
  split at ht
  ·rename_i hok
   split at ht
   ·rename_i e he
    split at ht
    ·rename_i d' hg
     obtain⟨hr0,hb,hnd,cr,L,c',k1,k2,k3,k4,k5,k6,k7⟩:=h.als hi hok he hg
     split at ht
     ·rename_i hfr
      simp only[Aa,Ab] at ht
      obtain⟨rfl,rfl⟩:=ht
      refine⟨S,β,c',h.hand ?_,.refl,k7,zO k6⟩
      rw[wW hfr] at k6 ⊢
      rw[yO] at k6 ⊢;exact k6
     ·split at ht
      ·rename_i hw
       split at ht
       ·rename_i hm
        simp only[Aa,Ab] at ht
        obtain⟨rfl,rfl⟩:=ht
        simp only[Ae,A6] at hm
        have h2:=h.moveOut he hg hnd hm.2 hn
        exact⟨S,_,c',h2.hand (qH k6),.rekey _ _,k7,zO k6⟩
       ·simp only[Aa,Ab] at ht
        obtain⟨rfl,rfl⟩:=ht
        have h2:=h.publish he hg hw
        refine⟨_,_,c',h2.hand ?_,.pub _ _ _,k7,zO k6⟩
        rw[yO];exact Ar3 (d:=d') hg hw k6
      ·cases ht
    ·cases ht
   ·cases ht
  ·cases ht
 | pend r p c s u e=>
  rw[hv] at ht
  obtain⟨i,rfl,hi⟩:=vZ hv (by simp) (by simp) (by simp)
  simp only[take] at ht
  split at ht
  ·rename_i hok
   simp only[Ae,A6] at hok
   split at ht
   ·rename_i e' he
    simp only[Aa,Ab] at ht
    obtain⟨rfl,rfl⟩:=ht
    have hss:=h.slots i
    rw[hi] at hss
    obtain⟨h0,_,_,_,hss⟩:=hss
    obtain⟨⟨e2,hg,hnd,hb⟩,β2,cc,hβ2,hvr,hV⟩:=hss hok.1.1.1 e' he
    have hir:i≠r:=fun e3=>by rw[e3,he] at hi;cases hi
    have hni:n≠i:=fun e3=>by rw[e3,hi] at hn;cases hn
    have hnr:n≠r:=fun e3=>by rw[e3,he] at hn;cases hn
    have h1:Rel H N (g.up (.put i .dead)) V w S β:=h.kill fun _ _=>rfl
    have hd1:((g.up (.put i .dead)) i).sv=.dead:=by rw[show g.up (.put i .dead) i=_ from pF (u:=.put i .dead)];rfl
    have hd2:((g.up (.put i .dead)) n).sv=.dead:=by rw[sQ (u:=.put i .dead) hni];exact hn
    have hd3:((g.up (.put i .dead)) r).sv=.dat e':=by rw[sQ (u:=.put i .dead) (AW hir)];exact he
    obtain⟨hsane,hkeep⟩:=h1.repl hβ2 hd1 hd3
    have h2:Rel H N ((g.up (.put i .dead)).up (.mod r (.dat ⟨e'.t,e'.x,kD p e'.f .gone⟩))) V w S (rekey β2 (r :: xA p) [n]):=by
     refine h1.mod hd3 rfl (hsane.rekey _ _) (fun b hb=>⟨hb,rfl⟩) (fun j s b hj ha hb=>⟨?_,rfl⟩) ?_
     ·have hjn:j≠n:=fun e'=>ha (e' ▸ hd2)
      rw[xX (zZ hjn) (zZ hj)];exact hkeep j s b hj ha hb
     ·obtain⟨c,hv,hV⟩:=h1.dat hd3
      refine⟨c,pA (fun b hb=>⟨hb,rfl⟩) hok.1.1.2 hg hnd (fun s b hs hb=>⟨?_,rfl⟩) hv,hV⟩
      simp only[Ad,Aw] at hb ⊢
      have hst:sA (r :: xA p) (r :: s)=none:=by
       cases hst:sA (r :: xA p) (r :: s) with
       | none=>rfl
       | some s'=>
        have:=pU.1 hst
        simp only[Ad,Ax,Bc] at this
        exact absurd ⟨s',this.symm⟩ hs
      rw[xX (zZ (AW hnr)) hst]
      rcases hβ2 with rfl|⟨b2,hb2,rfl⟩
      ·exact hb
      ·unfold Rf.repl
       rw[Aq (fun e3=>?_),Aq (by simp[AW hir])]
       ·exact hb
       ·exact iI hst [] (by simpa using e3)
    have hcomm:(g.ups [.mod r (.dat ⟨e'.t,e'.x,kD p e'.f .gone⟩),.put i .dead])=(g.up (.put i .dead)).up (.mod r (.dat ⟨e'.t,e'.x,kD p e'.f .gone⟩)):=
     zW.up_comm (u:=.mod r (.dat ⟨e'.t,e'.x,kD p e'.f .gone⟩)) (v:=.put i .dead) (AW hir)
    rw[hcomm]
    exact⟨S,_,cc,h2.hand (qH hvr),.trans (A3y.repl_or hβ2 h.sane).2 (.rekey _ _),hV,zO hvr⟩
   ·cases ht
  ·cases ht
end
end Go.Rf

end
section
namespace Go.Rf
set_option linter.unusedSectionVars false
variable [T:Laid]
section
variable {H:Nat→Option (List Value)} {N:Nat} {g g':zW} {V V':Nat→Option Value} {w w':World} {S S':Nat→Prop} {β β':Key→Option Nat}
def Au9 (S:Nat→Prop) (β:Key→Option Nat):Nat→Prop:=fun b=>S b∨∃ k,β k=some b
theorem hH {k:Key} {t:Ty} {f:Fl} {x:t.D} {c:List Value} (hw:f.whole=true) (h:zN S β H w k t f x c):Rd (Au9 S β) w t x c:=
 wY hw (fun _=>.inl) (fun _ _ hb=>.inr ⟨_,hb⟩) h
theorem A9z {t:Ty} {x:t.D} {c:List Value} (h:Rd S w t x c):Rd (Au9 S β) w t x c:=zM (fun _ hb=>⟨.inl hb,rfl⟩) h
theorem bH (h:Rel H N g V w S β):∀ {rs:List (Nat × Nat)} {cs:FCaps},eJ g rs=some cs →
  (∀ x ∈ rs,(g x.1).s=x.2)∧∃ vs:List Value,rs.map (fun x=>V x.1)=vs.map some∧qY (Au9 S β) w cs vs
 | [],cs,hc=>by
  simp only[eJ,Aa] at hc;subst hc
  exact⟨by simp,[],rfl,by simp[qY]⟩
 | (r,s) :: rs,cs,hc=>by
  simp only[eJ] at hc
  split at hc
  ·rename_i k n f he
   split at hc
   ·rename_i hok
    simp only[Ae,A2] at hok
    simp only[Ah] at hc
    obtain⟨cs',hc,rfl⟩:=hc
    obtain⟨h1,vs,h2,h3⟩:=bH h hc
    obtain⟨c,hv,hV⟩:=h.dat he
    have:=hH hok.2 hv
    simp only[Rd] at this
    obtain⟨b,cs2,rfl,hb,hB,hz,h4⟩:=this
    refine⟨?_,.pointer (some ⟨b,0,none⟩) :: vs,?_,?_⟩
    ·intro x hx
     rcases AF.1 hx with rfl|hx
     ·exact hok.1
     ·exact h1 x hx
    ·simp only[Bp,h2,Ax,Bm];exact hV
    ·simp only[qY]
     refine⟨b,vs,rfl,hb,?_,h3⟩
     have:cs2=#[.int k n]:=by apply AD.1;rw[h4]
     rwa [← this]
   ·cases hc
  ·rename_i v f he
   split at hc
   ·rename_i hok
    simp only[Ae,A2] at hok
    simp only[Ah] at hc
    obtain⟨cs',hc,rfl⟩:=hc
    obtain⟨h1,vs,h2,h3⟩:=bH h hc
    obtain⟨c,hv,hV⟩:=h.dat he
    have:=hH hok.2 hv
    simp only[Rd] at this
    obtain⟨b,cs2,rfl,hb,hB,hz,u,h4,h5⟩:=this
    refine⟨?_,.pointer (some ⟨b,0,none⟩) :: vs,?_,?_⟩
    ·intro x hx
     rcases AF.1 hx with rfl|hx
     ·exact hok.1
     ·exact h1 x hx
    ·simp only[Bp,h2,Ax,Bm];exact hV
    ·simp only[qY]
     refine⟨b,u,vs,rfl,hb,?_,h5,h3⟩
     have:cs2=#[u]:=by apply AD.1;rw[h4]
     rwa [← this]
   ·cases hc
  ·cases hc
theorem tM {x:Operand} {d:Dat} (h:Rel H N g V w S β) (hd:yK g (sv g x)=some d):
  ∃ c,evl V x=some (zV d.t c)∧Rd (Au9 S β) w d.t d.x c:=by
 cases hv:sv g x with
 | dead=>rw[hv] at hd;simp[yK] at hd
 | und=>rw[hv] at hd;simp[yK] at hd
 | unk=>rw[hv] at hd;simp[yK] at hd
 | tup d=>rw[hv] at hd;simp[yK] at hd
 | adr _ _ _ _=>rw[hv] at hd;simp[yK] at hd
 | nils=>rw[hv] at hd;simp[yK] at hd
 | dat e=>
  rw[hv] at hd
  simp only[yK] at hd
  split at hd
  ·rename_i hw
   simp only[Aa] at hd;subst hd
   rcases pP h hv with ⟨s,rfl,hs⟩| ⟨hf,c,hc,hrd⟩
   ·obtain⟨c,hvr,hV⟩:=h.dat hs
    exact⟨c,hV,hH hw hvr⟩
   ·exact⟨c,hc,A9z hrd⟩
  ·cases hd
 | clo f rs=>
  rw[hv] at hd
  obtain⟨s,rfl,hs⟩:=vZ hv (by simp) (by simp) (by simp)
  simp only[yK,Ah] at hd
  obtain⟨cs,hc,rfl⟩:=hd
  obtain⟨h1,vs,h2,h3⟩:=bH h hc
  have hss:=h.slots s
  rw[hs] at hss
  have:=hss.2 h1 vs h2
  refine⟨[.func (.func f) #[] vs.toArray],this,?_⟩
  simp only[Rd,Aw7]
  exact⟨_,rfl,vs,rfl,h3⟩
 | als r p c s=>
  rw[hv] at hd
  obtain⟨i,rfl,hi⟩:=vZ hv (by simp) (by simp) (by simp)
  simp only[yK] at hd
  split at hd
  ·rename_i hok
   split at hd
   ·rename_i e he
    split at hd
    ·rename_i hw
     simp only[Aa] at hd;subst hd
     obtain⟨e',he',hg⟩:=lX he
     obtain⟨_,hb,hnd,cr,L,c',k1,k2,k3,k4,k5,k6,k7⟩:=h.als hi hok he' hg
     exact⟨c',k7,hH hw k6⟩
    ·cases hd
   ·cases hd
  ·cases hd
 | pend r p c s u e=>
  rw[hv] at hd
  obtain⟨i,rfl,hi⟩:=vZ hv (by simp) (by simp) (by simp)
  simp only[yK] at hd
  split at hd
  ·rename_i hok
   simp only[Ae] at hok
   split at hd
   ·rename_i e' he
    simp only[Aa] at hd;subst hd
    have hss:=h.slots i
    rw[hi] at hss
    obtain⟨h0,_,_,_,hss⟩:=hss
    obtain⟨_,β2,cc,hβ2,hvr,hV⟩:=hss hok.1 e' he
    refine⟨cc,hV,zM (fun b hb=>⟨?_,rfl⟩) (hH hok.2 hvr)⟩
    rcases hb with hb|⟨k,hb⟩
    ·exact .inl hb
    ·rcases hβ2 with rfl|⟨b2,hb2,rfl⟩
     ·exact .inr ⟨k,hb⟩
     ·unfold repl at hb
      split at hb
      ·cases hb;exact .inr ⟨_,hb2⟩
      ·split at hb
       ·cases hb
       ·exact .inr ⟨k,hb⟩
   ·cases hd
  ·cases hd
theorem eZ {x:Operand} {q:Pl} {d:Dat} (h:Rel H N g V w S β) (hq:iU g x (sv g x)=some q) (hd:atP g q.1 q.2=some d) (hn:d.f.base≠.gone):
  ∃ e cr L c,(g q.1).sv=.dat e∧yJ q.2 e.t e.f e.x=some d∧inB q.2 e.t e.x∧V q.1=some (zV e.t cr)∧cr.length=e.t.size∧zN S β H w [q.1] e.t e.f e.x cr ∧
   vF w e.t (.reg cr) q.2=some (d.t,L)∧zD w d.t.size L=some c∧zN S β H w (q.1 :: xA q.2) d.t d.f d.x c∧evl V x=some (zV d.t c):=by
 obtain⟨e,he,hg⟩:=lX hd
 cases hv:sv g x with
 | dat e'=>
  rw[hv] at hq
  simp only[iU] at hq
  split at hq
  ·rename_i s
   simp only[Aa] at hq;subst hq
   have he':(g s).sv=.dat e':=hv
   rw[he] at he'
   simp only[SV.dat.injEq] at he'
   subst he'
   simp only[yJ,Aa] at hg
   subst hg
   obtain⟨c,hvr,hV⟩:=h.dat he
   have hl:=zO hvr
   exact⟨e,c,.reg c,c,he,rfl,by simp[inB],hV,hl,hvr,rfl,by simp[zD,hl],by simpa[xA] using hvr,hV⟩
  ·cases hq
 | als r p c s=>
  rw[hv] at hq
  obtain⟨i,rfl,hi⟩:=vZ hv (by simp) (by simp) (by simp)
  simp only[iU] at hq
  split at hq
  ·rename_i hok
   simp only[Aa] at hq;subst hq
   obtain⟨_,hb,hnd,cr,L,c',k1,k2,k3,k4,k5,k6,k7⟩:=h.als hi hok he hg
   exact⟨e,cr,L,c',he,hg,hb,k1,k2,k3,k4,k5,k6,k7⟩
  ·cases hq
 | _=>rw[hv] at hq;simp[iU] at hq
theorem kF {x:Operand} {q:Pl} {d:Dat} (h:Rel H N g V w S β) (hq:hP g x (sv g x)=some q) (hd:atP g q.1 q.2=some d):
  ∃ e cr b o,(g q.1).sv=.dat e∧yJ q.2 e.t e.f e.x=some d∧inB q.2 e.t e.x∧V q.1=some (zV e.t cr)∧cr.length=e.t.size ∧
   vF w e.t (.reg cr) q.2=some (d.t,.mem b o)∧evl V x=some (.pointer (some ⟨b,o,none⟩))∧(jG q.2=true∨∃ d',yJ q.2 e.t e.f e.x=some d'∧d'.f.base≠.gone):=by
 obtain⟨e,he,hg⟩:=lX hd
 cases hv:sv g x with
 | dat e'=>
  rw[hv] at hq
  obtain⟨t,y,f⟩:=e'
  cases t<;>simp only[hP,reduceCtorEq] at hq
  split at hq
  ·cases hq
  ·rename_i hf
   split at hq
   ·rename_i s
    simp only[Aa] at hq;subst hq
    have he':(g s).sv=.dat _:=hv
    rw[he] at he'
    simp only[SV.dat.injEq] at he'
    subst he'
    obtain⟨c,hvr,hV⟩:=h.dat he
    have hl:=zO hvr
    simp only[Bh] at hf
    rename_i t
    have hg':=hg
    simp only[yJ,Aa] at hg'
    subst hg'
    have hb:=jO hvr
    have:∃ b,c=[.pointer (some ⟨b,0,none⟩)]:=by
     have hne:=uE hf
     simp only[zN] at hvr
     replace hvr:=hvr.2
     cases hfb:Fl.base f with
     | own e2=>rw[hfb] at hvr;obtain⟨b,cs,rfl,_⟩:=hvr;exact⟨b,rfl⟩
     | gone=>exact absurd hfb hne
     | _=>rw[hfb] at hvr;simp only[Rd] at hvr;obtain⟨b,cs,rfl,_⟩:=hvr;exact⟨b,rfl⟩
    obtain⟨b,rfl⟩:=this
    exact⟨_,_,b,0,he,by simp[yJ],by simp[inB],hV,hl,by simp[vF,xJ,zD],hV,.inl rfl⟩
   ·cases hq
 | adr r p c s=>
  rw[hv] at hq
  obtain⟨i,rfl,hi⟩:=vZ hv (by simp) (by simp) (by simp)
  simp only[hP] at hq
  split at hq
  ·rename_i hok
   simp only[Aa] at hq;subst hq
   have hss:=h.slots i
   rw[hi] at hss
   obtain⟨h0,_,_,hss⟩:=hss
   obtain⟨cr,t,b,o,k1,k2,k3,k4,k5,k6⟩:=hss hok e he
   have:=AO7 hg k3
   subst this
   refine⟨e,cr,b,o,he,hg,k5,k1,k2,k3,k4,?_⟩
   simp only
   cases hbx:jG p with
   | true=>exact .inl rfl
   | false=>exact .inr (k6 hbx)
  ·cases hq
 | als r p c s=>
  rw[hv] at hq
  obtain⟨i,rfl,hi⟩:=vZ hv (by simp) (by simp) (by simp)
  simp only[hP] at hq
  split at hq
  ·rename_i hok
   split at hq
   ·rename_i t y f hat
    split at hq
    ·cases hq
    ·rename_i hf
     simp only[Aa] at hq;subst hq
     simp only at he hg hd ⊢
     obtain⟨e2,he2,hg2⟩:=lX hat
     rw[he] at he2
     simp only[SV.dat.injEq] at he2
     subst he2
     obtain⟨_,hb,hnd,cr,L,c',k1,k2,k3,k4,k5,k6,k7⟩:=h.als hi hok he hg2
     have hgd:yJ (p++[.der]) e.t e.f e.x=some ⟨t,y,f.e⟩:=by rw[rD hg2];rfl
     rw[hg] at hgd
     simp only[Aa] at hgd
     subst hgd
     simp only[Bh] at hf
     have hne:=uE hf
     obtain⟨b,cs,hc',hs,hB,hz,hv'⟩:=A3J hne k6
     subst hc'
     simp only[Ty.size] at k5
     refine⟨e,cr,b,0,he,hg,pR hg2 hb (by simp[inB]),k1,k2,?_,k7,.inr ⟨_,hg,hne⟩⟩
     rw[mY k4]
     simp[vF,xJ,k5]
   ·cases hq
  ·cases hq
 | _=>rw[hv] at hq;simp[hP] at hq
end
end Go.Rf

end
section
namespace Go.Rf
set_option linter.unusedSectionVars false
variable [T:Laid]
def pI (P:Program) (d:Nat) (u:TypeDesc) (τ:Ty):Prop:=
 match u with
 | .int k=>τ=.int k
 | .bool=>τ=.bool
 | .string=>τ=.str
 | .func _ _ _=>τ=.fn
 | .slice e=>∃ a,tyN P d e=some a∧τ=.sl a
 | .pointer e=>∃ a,tyN P d e=some a∧τ=.ptr a
 | .array n e=>∃ a,tyN P d e=some a∧τ=.arr n a
 | .struct fs=>qU (tyN P d) fs.toList 0=some τ
 | _=>False
theorem pD {P:Program} {d:Nat} {t:TypeId} {τ:Ty} (h:tyN P (d+1) t=some τ):
  ∃ i u,P.info? t=some i∧P.underlying t=some u∧i.size=τ.size∧pI P d u τ:=by
 simp only[tyN] at h
 split at h
 ·rename_i i u hi hu
  split at h
  ·rename_i τ' hτ
   split at h
   ·rename_i hsz
    simp only[Aa] at h;subst h
    refine⟨i,u,hi,hu,by simpa[A2] using hsz,?_⟩
    unfold pI
    split at hτ<;>(try simp only[Aa,Ah,reduceCtorEq] at hτ)
    ·exact hτ.symm
    ·exact hτ.symm
    ·exact hτ.symm
    ·exact hτ.symm
    ·obtain⟨a,h1,h2⟩:=hτ;exact⟨a,h1,h2.symm⟩
    ·obtain⟨a,h1,h2⟩:=hτ;exact⟨a,h1,h2.symm⟩
    ·obtain⟨a,h1,h2⟩:=hτ;exact⟨a,h1,h2.symm⟩
    ·exact hτ
   ·cases h
  ·cases h
 ·cases h
theorem qG {ty:TypeId→Option Ty}:∀ {fs:List Field} {o:Nat} {τ:Ty},qU ty fs o=some τ→τ=.unit∨∃ a b,τ=.pair a b
 | [],_,_,h=>by simp only[qU,Aa] at h;exact .inl h.symm
 | f :: fs,o,τ,h=>by
  simp only[qU] at h
  split at h
  ·split at h
   ·simp only[Ah] at h
    obtain⟨b,_,rfl⟩:=h
    exact .inr ⟨_,_,rfl⟩
   ·cases h
  ·cases h
section
variable {P:Program} {w:World}
theorem vK {t:TypeId} {i:TypeInfo} (h:P.info? t=some i):(typeInfo t).run P w=.ok i w:=by
 unfold typeInfo;simp[h]
theorem zC {t:TypeId} {u:TypeDesc} (h:P.underlying t=some u):(underlying t).run P w=.ok u w:=by
 unfold underlying;simp[h]
theorem uF {t:TypeId} {d:Nat} {τ:Ty} (h:tyN P (d+1) t=some τ):(sizeOf t).run P w=.ok τ.size w:=by
 obtain⟨i,u,h1,h2,h3,h4⟩:=pD h
 unfold sizeOf;simp[vK h1,h3]
theorem Ah5 {t:TypeId} {d:Nat} {τ:Ty} (h:tyN P (d+1) t=some τ):(isAgg t).run P w=.ok τ.agg w:=by
 obtain⟨i,u,h1,h2,h3,h4⟩:=pD h
 unfold isAgg
 simp only[Sem.run_bind,zC h2,Result.andThen_ok]
 unfold pI at h4
 cases u<;>simp only at h4<;>first
  | exact h4.elim
  | (subst h4;rfl)
  | (obtain⟨a,_,rfl⟩:=h4;rfl)
  | (rcases qG h4 with rfl|⟨a,b,rfl⟩<;>rfl)
theorem mL (b o n:Nat):(Br ⟨b,o,none⟩ n)=⟨b,o+n,none⟩:=by
 unfold Br;split
 ·rename_i h;rw[h];rfl
 ·rfl
theorem A6U {b o n:Nat} {c:List Value} (h:zD w n (.mem b o)=some c) (j:Nat) (v:Value) (hj:c[j]?=some v):w.cell? (Br ⟨b,o,none⟩ j)=some v:=by
 rw[mL]
 have hl:=oS h
 simp only[zD] at h
 split at h
 ·rename_i cs e fz hb
  split at h
  ·rename_i hle
   simp only[Aa] at h;subst h
   simp only[World.cell?,hb]
   rw[rL] at hj
   split at hj
   ·simpa using hj
   ·cases hj
  ·cases h
 ·cases h
theorem oJ {b o n:Nat} {c:List Value} (h:zD w n (.mem b o)=some c):(loadCells ⟨b,o,none⟩ n).run P w=.ok c.toArray w:=by
 have:=run_loadCells_list (P:=P) w ⟨b,o,none⟩ c (fun j v hj=>A6U h j v hj)
 rwa [oS h] at this
theorem AT9 {t:TypeId} {d:Nat} {τ:Ty} {b o:Nat} {c:List Value} (ht:tyN P (d+1) t=some τ) (h:zD w τ.size (.mem b o)=some c):
  (loadVar t ⟨b,o,none⟩).run P w=.ok (zV τ c) w:=by
 unfold loadVar
 simp only[Sem.run_bind,Ah5 ht,Result.andThen_ok]
 cases ha:τ.agg with
 | true=>
  simp only[Au,Sem.run_bind,uF ht,Result.andThen_ok,oJ h,Sem.run_pure]
  unfold zV;rw[ha]
 | false=>
  simp only[A3,if_false]
  have hl:=oS h
  have hs:τ.size=1:=by cases τ<;>simp_all[Ty.agg,Ty.size]
  rw[hs] at hl
  obtain⟨v,rfl⟩:=A1.1 hl
  have:=A6U h 0 v rfl
  rw[mL] at this
  simp only[Bd] at this
  simp only[run_load,this]
  unfold zV;rw[ha];rfl
theorem A8v {S:Nat→Prop}:∀ {x:FnVal} {v:Value},Aw7 S w x v→v.oneCell'=true
 | .nil,v,h=>by simp only[Aw7] at h;subst h;rfl
 | .mk f cs,v,h=>by simp only[Aw7] at h;obtain⟨l,rfl,_⟩:=h;rfl
theorem A7G {c:List Value} {v:Value} {n:Nat} (hv:v ∈ c) (hn:c.length=n):∃ i,i < n∧c[i]?=some v:=by
 obtain⟨i,hi,h⟩:=List.getElem_of_mem hv
 exact⟨i,by omega,by rw[List.getElem?_eq_getElem hi,h]⟩
theorem A0L {S:Nat→Prop}:∀ {t:Ty} {x:t.D} {c:List Value},Rd S w t x c→∀ v ∈ c,v.oneCell'=true
 | .int _,_,_,h=>by simp only[Rd] at h;subst h;simp[Value.oneCell']
 | .bool,_,_,h=>by simp only[Rd] at h;subst h;simp[Value.oneCell']
 | .str,_,_,h=>by simp only[Rd] at h;subst h;simp[Value.oneCell']
 | .fn,_,_,h=>by simp only[Rd] at h;obtain⟨u,rfl,h⟩:=h;simpa using A8v h
 | .unit,_,_,h=>by simp only[Rd] at h;subst h;simp
 | .sl _,_,_,h=>by simp only[Rd] at h;obtain⟨_,_,rfl,_⟩:=h;simp[Value.oneCell']
 | .ptr _,_,_,h=>by simp only[Rd] at h;obtain⟨_,_,rfl,_⟩:=h;simp[Value.oneCell']
 | .arr n t,x,c,h=>by
  simp only[Rd] at h
  obtain⟨h1,h2,h3⟩:=h
  intro v hv
  obtain⟨i,hi,hiv⟩:=A7G hv h2
  have ht:0 < t.size:=by
   rcases Nat.eq_zero_or_pos t.size with e|e
   ·rw[e] at hi;omega
   ·exact e
  have hq:i / t.size < n:=by rw[Nat.div_lt_iff_lt_mul ht];exact hi
  have hx:i / t.size < Ac x:=by omega
  have hr:=A0L (h3 (i / t.size) _ (sZ (z:=t.dflt) hx))
  refine hr v ?_
  have hg:(win c (i / t.size * t.size) t.size)[i % t.size]?=some v:=by
   rw[rL,Ar (Nat.mod_lt _ ht)]
   have:=Nat.div_add_mod i t.size
   rw[Nat.mul_comm] at this
   rw[this];exact hiv
  exact List.mem_of_getElem? hg
 | .pair a b,x,c,h=>by
  simp only[Rd] at h
  intro v hv
  rw[← List.take_append_drop a.size c] at hv
  rcases List.mem_append.1 hv with hv|hv
  ·exact A0L h.1 v hv
  ·exact A0L h.2 v hv
theorem Ap6 {S:Nat→Prop} {β:Key→Option Nat} {H:Nat→Option (List Value)} {k:Key} {t:Ty} {f:Fl} {x:t.D} {c:List Value} (hw:f.whole=true) (h:zN S β H w k t f x c):∀ v ∈ c,v.oneCell'=true:=
 A0L (hH hw h)
theorem dZ {t:Ty} {c:List Value} (hl:c.length=t.size) (h1:∀ v ∈ c,v.oneCell'=true):(zV t c).cells=c.toArray:=by
 unfold zV
 cases ha:t.agg with
 | true=>rfl
 | false=>
  have hs:t.size=1:=by cases t<;>simp_all[Ty.agg,Ty.size]
  rw[hs] at hl
  obtain⟨v,rfl⟩:=A1.1 hl
  have:=h1 v (by simp)
  cases v<;>first|rfl|simp[Value.oneCell'] at this
theorem A4U {b o:Nat} {cs:Array Value} {e:TypeId} {fz:Nat × Nat} {v:Value} (hb:w.heap[b]?=some (.cells cs e fz)) (ho:o < cs.size) (hf:¬ (fz.1≤o∧o < fz.2)) (hv:v.oneCell'=true):
  ∃ w',(store ⟨b,o,none⟩ v).run P w=.ok () w'∧w'.heap[b]?=some (.cells (cs.set o v) e fz)∧(∀ b',b'≠b→w'.heap[b']?=w.heap[b']?)∧w'.heap.size=w.heap.size∧SameOut w w':=by
 have hlt:=(A7.1 hb).1
 refine⟨w.setCell ⟨b,o,none⟩ v,?_,?_,?_,?_,⟨rfl,rfl,rfl⟩⟩
 ·rw[run_store P w _ v _ hv]
  have h1:w.cell? ⟨b,o,none⟩=some cs[o]:=by simp[World.cell?,hb,ho]
  have h2:w.frozen? ⟨b,o,none⟩=false:=by
   obtain⟨lo,hi⟩:=fz
   simp only at hf
   simp only[World.frozen?,hb]
   cases hq:(decide (lo≤o)&&decide (o < hi))
   ·rfl
   ·simp only[Ae,Aj] at hq;exact absurd hq hf
  simp[h1,h2]
 ·simp only[AX,AR]
  rw[hb]
  simp[Array.setIfInBounds,ho]
 ·intro b' hb'
  simp only[AX,AR]
  rw[Aq (AW hb')]
 ·simp[AX]
theorem qW {b o:Nat} {e:TypeId} {fz:Nat × Nat}:∀ {vs:List Value} {i:Nat} {w:World} {cs:Array Value},w.heap[b]?=some (.cells cs e fz)→(∀ j,j < vs.length→o+i+j < cs.size∧¬ (fz.1≤o+i+j∧o+i+j < fz.2))→(∀ v ∈ vs,v.oneCell'=true) →
  ∃ w' cs',(storeCells ⟨b,o,none⟩ vs i).run P w=.ok () w'∧w'.heap[b]?=some (.cells cs' e fz)∧cs'.toList=iM cs.toList (o+i) vs∧(∀ b',b'≠b→w'.heap[b']?=w.heap[b']?)∧w'.heap.size=w.heap.size∧SameOut w w'
 | [],i,w,cs,hb,_,_=>⟨w,cs,by simp[storeCells],hb,by simp[iM],fun _ _=>rfl,rfl,.rfl'⟩
 | v :: vs,i,w,cs,hb,hj,hv=>by
  have h0:=hj 0 (by simp)
  simp only[Bd] at h0
  obtain⟨w1,g1,g2,g3,g4,g5⟩:=A4U (P:=P) hb h0.1 h0.2 (hv v (by simp))
  obtain⟨w2,cs2,k1,k2,k3,k4,k5,k6⟩:=qW (vs:=vs) (i:=i+1) (w:=w1) g2 (fun j hjl=>by
   have:=hj (j+1) (by simp;omega)
   rw[Array.size_set]
   rw[show o+(i+1)+j=o+i+(j+1) by omega];exact this) (fun u hu=>hv u (by simp[hu]))
  refine⟨w2,cs2,?_,k2,?_,fun b' hb'=>(k4 b' hb').trans (g3 b' hb'),k5.trans g4,g5.trans k6⟩
  ·simp only[storeCells,mL,Sem.run_bind,g1,Result.andThen_ok,k1]
  ·rw[k3,Array.toList_set]
   have hlen:o+i < cs.toList.length:=by simpa using h0.1
   have hlast:o+i+(v :: vs).length≤cs.toList.length:=by
    have:=(hj vs.length (by simp)).1
    simp only[AN,Ay];omega
   simp only[AN] at hlast
   apply AB
   intro k
   rw[jX (by simp;simp only[Ay] at hlast;omega),jX (by simpa using hlast),Bb]
   by_cases h1:k < o+i
   ·rw[Ar (by omega),Aq (by omega),Ar h1]
   ·rw[Aq h1]
    by_cases h2:k=o+i
    ·subst h2
     rw[Ar (by omega),Ar rfl,Ar hlen,Ar (by simp)]
     simp
    ·rw[Aq (by omega)]
     have e:k - (o+i)=(k - (o+(i+1)))+1:=by omega
     rw[e,List.getElem?_cons_succ,AN]
     by_cases h3:k < o+(i+1)+vs.length
     ·rw[Ar h3,Ar (by omega)]
     ·rw[Aq h3,Aq (by omega),Aq (by omega)]
theorem Ar8 {t:TypeId} {d:Nat} {τ:Ty} {b o:Nat} {cs:Array Value} {c:List Value} (ht:tyN P (d+1) t=some τ) {q:Bool} (hB:AC1 q w b cs) (ho:o+τ.size≤cs.size) (hl:c.length=τ.size) (h1:∀ v ∈ c,v.oneCell'=true):
  ∃ w',(storeVar t ⟨b,o,none⟩ (zV τ c)).run P w=.ok () w'∧Chg w w' b o c∧w'.heap.size=w.heap.size:=by
 obtain⟨e,fz,hb,hf⟩:=hB
 obtain⟨w',cs',k1,k2,k3,k4,k5,k6⟩:=qW (P:=P) (vs:=c) (i:=0) (o:=o) hb (fun j hj=>⟨by omega,hf.1 _ (by omega)⟩) h1
 refine⟨w',?_,⟨k4,⟨cs,e,fz,cs',hb,k2,by simpa using k3,by rw[hl];exact ho⟩,k6⟩,k5⟩
 unfold storeVar
 simp only[Sem.run_bind,uF ht,Result.andThen_ok,dZ hl h1]
 simp[hl,k1]
end
end Go.Rf

end
section
namespace Go.Rf
set_option linter.unusedSectionVars false
variable [T:Laid]
def qD (a:Act):Nat→Option Value:=fun i=>a.tmps[i]?
theorem zH {a:Act} {x:Operand} {v:Value} (h:evl (qD a) x=some v):a.eval x=v:=by
 cases x<;>simp only[evl,qD,Aa,reduceCtorEq] at h<;>simp only[Act.eval]
 ·simp[h]
 ·exact h
 ·exact h
def yD (N:Nat) (g:zW):Prop:=∀ i,N≤i→(g i).sv=.dead
def yF (P:Program) (H:Nat→Option (List Value)) (S:Nat→Prop) (β:Key→Option Nat) (a:Act) (w:World) (o:Oper) (g':zW):Prop:=
 ∀ (K:Act→World→Prop) (Q:Exit→Act→World→Prop),
  (∀ a' w' S' β',a'.tmps.size=a.tmps.size→a'.defers=a.defers→Rel H a.tmps.size g' (qD a') w' S' β'→Step w S β w' S' β'→K a' w')→o.wp P a w K Q
section
variable {P:Program} {H:Nat→Option (List Value)} {N:Nat} {g g' σ:zW} {V V':Nat→Option Value} {w w':World} {S S':Nat→Prop} {β β':Key→Option Nat} {a:Act} {o:Oper}
theorem uH {K:Act→World→Prop} {Q:Exit→Act→World→Prop} {v:Value} (hr:(execOp a.eval o).run P w=.ok (.value v) w') (hK:K (a.put o.dst v) w'):o.wp P a w K Q:=by
 unfold Oper.wp;rw[hr];exact hK
theorem A23 {K:Act→World→Prop} {Q:Exit→Act→World→Prop} (hr:(execOp a.eval o).run P w=.ok .skip w') (hK:K (a.put o.dst undef) w'):o.wp P a w K Q:=by
 unfold Oper.wp;rw[hr];exact hK
theorem vE {d:Nat} {v:Value} (hd:d < a.tmps.size):qD (a.put (some d) v)=upd (qD a) d v:=by
 funext i
 simp only[qD,Act.put,upd,Array.getElem?_setIfInBounds]
 split
 ·rename_i e;subst e;simp[hd]
 ·rename_i e;rw[Aq (AW e)]
theorem wG {d:Option Tmp} {v:Value}:(a.put d v).tmps.size=a.tmps.size:=by cases d<;>simp[Act.put]
theorem yN {d:Option Tmp} {v:Value}:(a.put d v).defers=a.defers:=by cases d<;>rfl
theorem yQ {us vs:List Up}:g.ups (us++vs)=(g.ups us).ups vs:=by
 induction us generalizing g with
 | nil=>rfl
 | cons u us ih=>exact ih
theorem yD.up (h:yD N g) {u:Up} (hu:u.slot < N):yD N (g.up u):=fun i hi=>by
 rw[sQ (by omega)];exact h i hi
theorem yD.ups (h:yD N g) {us:List Up} (hu:∀ u ∈ us,u.slot < N):yD N (g.ups us):=by
 induction us generalizing g with
 | nil=>exact h
 | cons u us ih=>exact ih (h.up (hu u (by simp))) (fun v hv=>hu v (by simp[hv]))
theorem yD.lt (h:yD N g) {i:Nat} (hi:(g i).sv≠.dead):i < N:=by
 rcases Nat.lt_or_ge i N with hl|hl
 ·exact hl
 ·exact absurd (h i hl) hi
theorem Rel.finish {g1:zW} {V1:Nat→Option Value} {d:Nat} {v:SV} {val:Value} {w1 w2:World} {S1 S2:Nat→Prop} {β1 β2:Key→Option Nat}
  (h:Rel H N g1 V1 w1 S1 β1) (hg:∀ i,i < N→g1 i=g i) (hd:yD N g) (hV:∀ i,i < N→V1 i=V i) (hdN:d < N)
  (hs:Sane w2 S2 β2) (hS:∀ b,S1 b→S2 b∧w2.heap[b]?=w1.heap[b]?)
  (hβ:∀ j s b,j≠d→(g1 j).sv≠.dead→β1 (j :: s)=some b→β2 (j :: s)=some b∧w2.heap[b]?=w1.heap[b]?)
  (hn:rR H N (g1.up (.put d v)) (upd V1 d val) w2 S2 β2 d v):Rel H N (g.up (.put d v)) (upd V d val) w2 S2 β2:=by
 have h1:Rel H N (g1.up (.put d v)) (upd V1 d val) w2 S2 β2:=h.put hs hS hβ (fun j hj=>by simp[upd,hj]) hn
 refine h1.fin (fun i hi=>?_) (hd.up hdN) (fun i hi=>?_)
 ·by_cases e:i=d
  ·subst e
   rw[show g.up (.put i v) i=_ from pF (u:=.put i v),show g1.up (.put i v) i=_ from pF (u:=.put i v)]
   show Up.on _ (g i)=Up.on _ (g1 i)
   rw[hg i hi]
  ·rw[sQ (u:=.put d v) e,sQ (u:=.put d v) e,hg i hi]
 ·simp only[upd];split
  ·rfl
  ·exact (hV i hi).symm
theorem Ah4 {us:List Up} {v:SV} {val:Value} {d:Nat} {g1:zW} {V1:Nat→Option Value} {S1:Nat→Prop} {β1:Key→Option Nat} (ho:o.dst=some d) (hd:d < a.tmps.size)
  (h:Rel H a.tmps.size g1 V1 w S1 β1) (hst:Step w S β w S1 β1) (hg:∀ i,i < a.tmps.size→g1 i=(g.ups us) i) (hD:yD a.tmps.size (g.ups us)) (hV:∀ i,i < a.tmps.size→V1 i=qD a i)
  (hr:(execOp a.eval o).run P w=.ok (.value val) w)
  (hn:rR H a.tmps.size (g1.up (.put d v)) (upd V1 d val) w S1 β1 d v):yF P H S β a w o (g.ups (us++[.put d v])):=by
 intro K Q hK
 refine uH hr (hK _ _ S1 β1 wG yN ?_ hst)
 rw[ho,vE hd,yQ]
 exact h.finish hg hD hV hd h.sane (fun b hb=>⟨hb,rfl⟩) (fun _ _ _ _ _ hb=>⟨hb,rfl⟩) hn
theorem AO2 {v:SV} {val:Value} {d:Nat} (h:Rel H a.tmps.size g (qD a) w S β) (hD:yD a.tmps.size g) (ho:o.dst=some d) (hd:d < a.tmps.size)
  (hr:(execOp a.eval o).run P w=.ok (.value val) w)
  (hn:rR H a.tmps.size (g.up (.put d v)) (upd (qD a) d val) w S β d v):yF P H S β a w o (g.ups [.put d v]):=
 Ah4 (us:=[]) ho hd h .refl (fun _ _=>rfl) hD (fun _ _=>rfl) hr hn
theorem rF {d:Nat} {v:SV} {i:Nat} (h:i≠d):g.up (.put d v) i=g i:=sQ (u:=.put d v) h
theorem vD {d:Nat} {v:SV}:g.up (.put d v) d=⟨v,(g d).c+1,(g d).s+1,(g d).u+1⟩:=pF (u:=.put d v)
theorem yG {us vs:List Up} {v:SV} (h:rW o us v some=some vs):∃ d,o.dst=some d∧vs=us++[.put d v]:=by
 unfold rW at h
 split at h
 ·rename_i d hd;simp only[Aa] at h;exact⟨d,hd,h.symm⟩
 ·cases h
theorem AV8 {d:Nat} {t:Ty} {x:t.D} {c:List Value} {val:Value} (hc:Rd S w t x c) (hv:val=zV t c):rR H N g (upd V d val) w S β d (.dat ⟨t,x,.sh⟩):=
 ⟨c,yO.2 hc,by simp[upd,hv]⟩
theorem BC3 {d:Nat} {k:IntKind} {n:Int}:rR H N g (upd V d (.int k n)) w S β d (.dat ⟨.int k,n,.sh⟩):=AV8 (c:=[.int k n]) (by simp[Rd]) rfl
theorem aN {t:Ty} {f:Fl} {k:Key} {x:t.D} {c:List Value} (ht:t.agg=false) (hs:∀ b,S b→S' b) (hn:(∀ a,t≠.sl a)∧∀ a,t≠.ptr a) (hf:f.base≠.gone) (h:zN S β H w k t f x c):Rd S' w t x c:=by
 cases t<;>simp[Ty.agg] at ht<;>simp only[zN] at h<;>obtain⟨_,h⟩:=h
 all_goals first
  | (exfalso;exact hn.1 _ rfl)
  | (exfalso;exact hn.2 _ rfl)
  | exact zM (fun b hb=>⟨hs b hb,rfl⟩) h
theorem gS {x:Operand} {k:IntKind} {n:Int} {f:Fl} (h:Rel H N g V w S β) (hx:sv g x=.dat ⟨.int k,n,f⟩) (hf:f.base≠.gone):evl V x=some (.int k n):=by
 rcases pP h hx with ⟨s,rfl,hs⟩| ⟨_,c,hc,hr⟩
 ·obtain⟨c,hv,hV⟩:=h.dat hs
  have:=aN (S':=S) (t:=.int k) rfl (fun _ h=>h) ⟨by simp,by simp⟩ hf hv
  simp only[Rd] at this;subst this;exact hV
 ·simp only[Rd] at hr;subst hr;exact hc
theorem AO5 {x:Operand} {n:Bool} {f:Fl} (h:Rel H N g V w S β) (hx:sv g x=.dat ⟨.bool,n,f⟩) (hf:f.base≠.gone):evl V x=some (.bool n):=by
 rcases pP h hx with ⟨s,rfl,hs⟩| ⟨_,c,hc,hr⟩
 ·obtain⟨c,hv,hV⟩:=h.dat hs
  have:=aN (S':=S) (t:=.bool) rfl (fun _ h=>h) ⟨by simp,by simp⟩ hf hv
  simp only[Rd] at this;subst this;exact hV
 ·simp only[Rd] at hr;subst hr;exact hc
theorem A3I {x:Operand} {n:List UInt8} {f:Fl} (h:Rel H N g V w S β) (hx:sv g x=.dat ⟨.str,n,f⟩) (hf:f.base≠.gone):evl V x=some (.string ⟨⟨n⟩⟩):=by
 rcases pP h hx with ⟨s,rfl,hs⟩| ⟨_,c,hc,hr⟩
 ·obtain⟨c,hv,hV⟩:=h.dat hs
  have:=aN (S':=S) (t:=.str) rfl (fun _ h=>h) ⟨by simp,by simp⟩ hf hv
  simp only[Rd] at this;subst this;exact hV
 ·simp only[Rd] at hr;subst hr;exact hc
end
end Go.Rf

end
section
namespace Go.Rf
set_option linter.unusedSectionVars false
variable [T:Laid]
def DV (w:World) (S:Nat→Prop) (d:Dat) (v:Value):Prop:=d.f=.sh∧∃ c,Rd S w d.t d.x c∧v=zV d.t c
section
variable {P:Program} {H:Nat→Option (List Value)} {N:Nat} {g g' σ:zW} {V V':Nat→Option Value} {w w':World} {S S':Nat→Prop} {β β':Key→Option Nat} {a:Act} {o:Oper}
theorem DV.int {k:IntKind} {n:Int}:DV w S ⟨.int k,n,.sh⟩ (.int k n):=⟨rfl,[.int k n],by simp[Rd],rfl⟩
theorem DV.bool {b:Bool}:DV w S ⟨.bool,b,.sh⟩ (.bool b):=⟨rfl,[.bool b],by simp[Rd],rfl⟩
theorem DV.str {s:List UInt8}:DV w S ⟨.str,s,.sh⟩ (.string ⟨⟨s⟩⟩):=⟨rfl,[.string ⟨⟨s⟩⟩],by simp[Rd],rfl⟩
theorem DV.look {d:Dat} {val:Value} {us:List Up} (hdv:DV w S d val) (h:Rel H a.tmps.size g (qD a) w S β) (hD:yD a.tmps.size g)
  (hi:opIn a.tmps.size o=true) (hk:rW o [] (.dat d) some=some us)
  (hr:(execOp a.eval o).run P w=.ok (.value val) w):yF P H S β a w o (g.ups us):=by
 obtain⟨dd,ho,rfl⟩:=yG hk
 have hd:dd < a.tmps.size:=by
  unfold opIn at hi;rw[ho] at hi
  simp only[Ae] at hi
  simpa[AK] using hi.1
 obtain⟨t,x,f⟩:=d
 obtain⟨rfl,c,hc,hv⟩:=hdv
 exact AO2 h hD ho hd hr (AV8 hc hv)
theorem kA:Fl.sh.base≠.gone:=by simp[Fl.base]
theorem BB2 {op:BinOp} {k:IntKind} {x y:Int} {k':IntKind} {t:TypeId} {κ:Dat→Option (List Up)} {us:List Up} (h:BG4 op k x k' y κ=some us):
  ∃ d val,κ d=some us∧DV w S d val∧(∀ S',DV w S' d val)∧(binOp op t (.int k x) (.int k' y)).run P w=.ok val w:=by
 unfold BG4 at h
 split at h
 ·simp only[At] at h
  split at h
  ·cases h
  ·rename_i hb
   exact⟨_,_,h,DV.int,fun _=>DV.int,by simp only[Aj,Ba] at hb;simp[binOp,Op.shift,Ba.2 hb]⟩
 ·simp only[At] at h
  split at h
  ·cases h
  ·rename_i hb
   exact⟨_,_,h,DV.int,fun _=>DV.int,by simp only[Aj,Ba] at hb;simp[binOp,Op.shift,Ba.2 hb]⟩
 ·rename_i h1 h2
  split at h
  ·rename_i hk
   subst hk
   split at h
   ·exact⟨_,_,h,DV.int,fun _=>DV.int,by simp[binOp,AU]⟩
   ·exact⟨_,_,h,DV.int,fun _=>DV.int,by simp[binOp,AU]⟩
   ·exact⟨_,_,h,DV.int,fun _=>DV.int,by simp[binOp,AU]⟩
   ·simp only[At,eqI,Aj] at h
    split at h
    ·cases h
    ·rename_i hb
     exact⟨_,_,h,DV.int,fun _=>DV.int,by simp[binOp,Op.intDiv,hb]⟩
   ·simp only[At,eqI,Aj] at h
    split at h
    ·cases h
    ·rename_i hb
     exact⟨_,_,h,DV.int,fun _=>DV.int,by simp[binOp,Op.intDiv,hb]⟩
   ·exact⟨_,_,h,DV.int,fun _=>DV.int,by simp[binOp,AP,yU]⟩
   ·exact⟨_,_,h,DV.int,fun _=>DV.int,by simp[binOp,AP,yU]⟩
   ·exact⟨_,_,h,DV.int,fun _=>DV.int,by simp[binOp,AP,yU]⟩
   ·exact⟨_,_,h,DV.int,fun _=>DV.int,by simp[binOp,AP,yU]⟩
   ·exact⟨_,_,h,DV.bool,fun _=>DV.bool,by simp[binOp,AO,eqI];rfl⟩
   ·exact⟨_,_,h,DV.bool,fun _=>DV.bool,by simp[binOp,AO,eqI,bne];rfl⟩
   ·exact⟨_,_,h,DV.bool,fun _=>DV.bool,by simp[binOp,AO]⟩
   ·exact⟨_,_,h,DV.bool,fun _=>DV.bool,by simp[binOp,AO]⟩
   ·exact⟨_,_,h,DV.bool,fun _=>DV.bool,by simp[binOp,AO]⟩
   ·exact⟨_,_,h,DV.bool,fun _=>DV.bool,by simp[binOp,AO]⟩
   ·cases h
  ·cases h
theorem AL2 {n:Nat} (h:zX n=true):n≤1099511627776:=by simpa[zX,Nat.ble_eq] using h
theorem A9r {op:BinOp} {x y:List UInt8} {t:TypeId} {κ:Dat→Option (List Up)} {us:List Up} (h:BN5 op x y κ=some us):
  ∃ d val,κ d=some us∧DV w S d val∧(binOp op t (.string ⟨⟨x⟩⟩) (.string ⟨⟨y⟩⟩)).run P w=.ok val w:=by
 unfold BN5 at h
 split at h
 ·simp only[At] at h
  split at h
  ·rename_i hb
   refine⟨_,_,h,DV.str,?_⟩
   have hb:=AL2 hb
   rw[binOp_string_add,run_string_add_sum _ _ _ (by simp[ByteArray.size];omega)]
   rw[ByteArray.mk_append_mk]
  ·cases h
 ·refine⟨_,_,h,DV.bool,?_⟩
  rw[binOp_string_eql,ByteArray.toList_mk,ByteArray.toList_mk]
  simp only[eqS,Sem.run_pure];rw[show (x == y)=decide (x=y) by rw[AG];simp]
 ·refine⟨_,_,h,DV.bool,?_⟩
  rw[binOp_string_neq,ByteArray.toList_mk,ByteArray.toList_mk]
  simp only[eqS,Sem.run_pure];rw[show (x == y)=decide (x=y) by rw[AG];simp]
 ·cases h
theorem A7h {x y:Bool} {t:TypeId} {d:Nat} (ht:tyN P (d+1) t=some .bool):((binOp .eql t (.bool x) (.bool y)).run P w=.ok (.bool (eqB x y)) w)∧(binOp .neq t (.bool x) (.bool y)).run P w=.ok (.bool (!eqB x y)) w:=by
 obtain⟨i,u,h1,h2,h3,h4⟩:=pD ht
 have hu:u=.bool:=by
  unfold pI at h4
  cases u<;>simp only[reduceCtorEq] at h4<;>first
   | rfl
   | (obtain⟨a,_,h⟩:=h4;cases h)
   | (rcases qG h4 with h|⟨_,_,h⟩<;>cases h)
 subst hu
 have he:(x == y)=eqB x y:=by cases x<;>cases y<;>rfl
 have hq:(Bn t (.bool x) (.bool y)).run P w=.ok (eqB x y) w:=by
  rw[show Bn t (.bool x) (.bool y)=AA (9999+1) t (.bool x) (.bool y) from rfl,run_equalIn_bool _ _ _ _ _ h2,he]
 constructor
 ·have:binOp .eql t (.bool x) (.bool y)=(do pure (.bool (← Bn t (.bool x) (.bool y)))):=rfl
  rw[this];simp only[Sem.run_bind,hq,Result.andThen_ok,Sem.run_pure]
 ·have:binOp .neq t (.bool x) (.bool y)=(do pure (.bool (!(← Bn t (.bool x) (.bool y))))):=rfl
  rw[this];simp only[Sem.run_bind,hq,Result.andThen_ok,Sem.run_pure]
theorem A2I {op:BinOp} {t:TypeId} {x y:Operand} {k k':IntKind} {m n:Int}:(eqGuard op t x y (.int k m) (.int k' n)).run P w=.ok () w:=by
 unfold eqGuard;cases op<;>simp
theorem A1D {op:BinOp} {t:TypeId} {x y:Operand} {m n:ByteArray}:(eqGuard op t x y (.string m) (.string n)).run P w=.ok () w:=by
 unfold eqGuard;cases op<;>simp
theorem AR3 {op:BinOp} {t:TypeId} {x y:Operand} {m n:Bool}:(eqGuard op t x y (.bool m) (.bool n)).run P w=.ok () w:=by
 unfold eqGuard;cases op<;>simp
theorem fD {op:BinOp} {t:TypeId} {x y:Operand} {ρ:Operand→Value} {u v val:Value} (ho:∃ q:TypeId,o.op=.binOp op t x y q) (hx:ρ x=u) (hy:ρ y=v) (hg:(eqGuard op t x y u v).run P w=.ok () w) (hr:(binOp op t u v).run P w=.ok val w):
  (execOp ρ o).run P w=.ok (.value val) w:=by
 obtain⟨q,ho⟩:=ho
 unfold execOp
 simp only[ho,hx,hy,Sem.run_bind,hg,Result.andThen_ok,hr,Sem.run_pure]
structure Ctx (P:Program) (H:Nat→Option (List Value)) (S:Nat→Prop) (β:Key→Option Nat) (a:Act) (w:World) (o:Oper) (g:zW):Prop where
 rel:Rel H a.tmps.size g (qD a) w S β
 dead:yD a.tmps.size g
 opIn:opIn a.tmps.size o=true
variable {E:Env} {gv:zW} {us:List Up}
theorem A3b {op:BinOp} {t tq:TypeId} {x y:Operand} (hc:Ctx E.P H S β a w o g) (hs:Sub gv g) (ho:o.op=.binOp op t x y tq)
  (hk:BG0 op (E.ty t) (sv gv x) (sv gv y) (fun d=>rW o [] (.dat d) some)=some us):yF E.P H S β a w o (g.ups us):=by
 unfold BG0 at hk
 split at hk
 ·rename_i k m k' n hx hy
  have ex:=zH (gS hc.rel (hs.sv hx (by simp)) kA)
  have ey:=zH (gS hc.rel (hs.sv hy (by simp)) kA)
  obtain⟨d,val,h1,h2,_,h3⟩:=BB2 (P:=E.P) (w:=w) (S:=S) (t:=t) hk
  exact h2.look hc.rel hc.dead hc.opIn h1 (fD ⟨_,ho⟩ ex ey A2I h3)
 ·rename_i m n hx hy
  have ex:=zH (A3I hc.rel (hs.sv hx (by simp)) kA)
  have ey:=zH (A3I hc.rel (hs.sv hy (by simp)) kA)
  obtain⟨d,val,h1,h2,h3⟩:=A9r (P:=E.P) (w:=w) (S:=S) (t:=t) hk
  exact h2.look hc.rel hc.dead hc.opIn h1 (fD ⟨_,ho⟩ ex ey A1D h3)
 ·rename_i m n hx hy
  have ex:=zH (AO5 hc.rel (hs.sv hx (by simp)) kA)
  have ey:=zH (AO5 hc.rel (hs.sv hy (by simp)) kA)
  split at hk
  ·rename_i ht
   have hb:=A7h (P:=E.P) (w:=w) (x:=m) (y:=n) ht
   split at hk
   ·exact DV.bool.look hc.rel hc.dead hc.opIn hk (fD ⟨_,ho⟩ ex ey AR3 hb.1)
   ·exact DV.bool.look hc.rel hc.dead hc.opIn hk (fD ⟨_,ho⟩ ex ey AR3 hb.2)
   ·cases hk
  ·cases hk
 ·cases hk
theorem A6W {op:UnOp} {t:TypeId} {x:Operand} (hc:Ctx E.P H S β a w o g) (hs:Sub gv g) (ho:o.op=.unOp op t x)
  (hk:unK op (sv gv x) (fun d=>rW o [] (.dat d) some)=some us):yF E.P H S β a w o (g.ups us):=by
 unfold unK at hk
 split at hk
 ·rename_i k n hx
  have ex:=zH (gS hc.rel (hs.sv hx (by simp)) kA)
  exact DV.int.look hc.rel hc.dead hc.opIn hk (by simp[execOp,ho,ex,Op.unary,AU,BE9])
 ·rename_i k n hx
  have ex:=zH (gS hc.rel (hs.sv hx (by simp)) kA)
  exact DV.int.look hc.rel hc.dead hc.opIn hk (by simp[execOp,ho,ex,Op.unary,AP,yU])
 ·rename_i n hx
  have ex:=zH (AO5 hc.rel (hs.sv hx (by simp)) kA)
  exact DV.bool.look hc.rel hc.dead hc.opIn hk (by simp[execOp,ho,ex,Op.unary])
 ·cases hk
theorem A07 {c x y:Operand} (hc:Ctx E.P H S β a w o g) (hs:Sub gv g) (ho:o.op=.pick c x y)
  (hk:A3V gv o c x y some=some us):yF E.P H S β a w o (g.ups us):=by
 unfold A3V at hk
 split at hk
 ·rename_i t hx
  have ex:=zH (AO5 hc.rel (hs.sv hx (by simp)) kA)
  have free:∀ z d,A2u (sv gv z)=some d→∃ val,DV w S d val∧a.eval z=val:=by
   intro z d hz
   unfold A2u at hz
   split at hz
   ·rename_i d' hd
    split at hz
    ·rename_i hf
     simp only[Aa] at hz;subst hz
     have hf:=wW hf
     rcases pP hc.rel (hs.sv hd (by simp)) with ⟨s,rfl,hs'⟩| ⟨_,c,hcc,hr⟩
     ·obtain⟨c,hv,hV⟩:=hc.rel.dat hs'
      rw[hf,yO] at hv
      exact⟨_,⟨hf,c,hv,rfl⟩,zH hV⟩
     ·exact⟨_,⟨hf,c,hr,rfl⟩,zH hcc⟩
    ·cases hz
   ·cases hz
  cases t with
  | true=>
   simp only[cond_true] at hk
   split at hk
   ·rename_i d hd
    obtain⟨val,h1,h2⟩:=free x d hd
    exact h1.look hc.rel hc.dead hc.opIn hk (by simp[execOp,ho,ex,asBool,h2])
   ·cases hk
  | false=>
   simp only[cond_false] at hk
   split at hk
   ·rename_i d hd
    obtain⟨val,h1,h2⟩:=free y d hd
    exact h1.look hc.rel hc.dead hc.opIn hk (by simp[execOp,ho,ex,asBool,h2])
   ·cases hk
 ·cases hk
theorem A2f {t:TypeId} {τ:Ty} (h:E.ty t=some τ):∃ u,E.P.underlying t=some u∧pI E.P 7 u τ:=by
 obtain⟨i,u,h1,h2,h3,h4⟩:=pD h
 exact⟨u,h2,h4⟩
theorem A2w {t:TypeId} {k:IntKind} (h:E.ty t=some (.int k)):E.P.underlying t=some (.int k):=by
 obtain⟨u,h2,h4⟩:=A2f h
 unfold pI at h4
 cases u<;>simp only[reduceCtorEq,Ty.int.injEq] at h4<;>first
  | (subst h4;exact h2)
  | (obtain⟨a,_,h⟩:=h4;cases h)
  | (rcases qG h4 with h|⟨_,_,h⟩<;>cases h)
theorem AK2 {t:TypeId} (h:E.ty t=some .str):E.P.underlying t=some .string:=by
 obtain⟨u,h2,h4⟩:=A2f h
 unfold pI at h4
 cases u<;>simp only[reduceCtorEq] at h4<;>first
  | exact h2
  | (obtain⟨a,_,h⟩:=h4;cases h)
  | (rcases qG h4 with h|⟨_,_,h⟩<;>cases h)
theorem AN0 {d:Nat} {t:TypeId} {τ:Ty} (h:tyN P (d+1) t=some (.sl τ)):∃ e,P.underlying t=some (.slice e)∧tyN P d e=some τ:=by
 obtain⟨i,u,_,h2,_,h4⟩:=pD h
 unfold pI at h4
 cases u<;>simp only[reduceCtorEq] at h4<;>first
  | (obtain⟨a,ha,h⟩:=h4;simp only[reduceCtorEq,Ty.sl.injEq] at h;subst h;exact⟨_,h2,ha⟩)
  | (obtain⟨a,_,h⟩:=h4;cases h)
  | (rcases qG h4 with h|⟨_,_,h⟩<;>cases h)
theorem Ab5 {d:Nat} {t:TypeId} {τ:Ty} {n:Nat} (h:tyN P (d+1) t=some (.arr n τ)):∃ e,P.underlying t=some (.array n e)∧tyN P d e=some τ:=by
 obtain⟨i,u,_,h2,_,h4⟩:=pD h
 unfold pI at h4
 cases u<;>simp only[reduceCtorEq] at h4<;>first
  | (obtain⟨a,ha,h⟩:=h4;simp only[reduceCtorEq,Ty.arr.injEq] at h;obtain⟨rfl,rfl⟩:=h;exact⟨_,h2,ha⟩)
  | (obtain⟨a,_,h⟩:=h4;cases h)
  | (rcases qG h4 with h|⟨_,_,h⟩<;>cases h)
theorem BD0 {d:Nat} {t:TypeId} {τ:Ty} (h:tyN P (d+1) t=some (.ptr τ)):∃ e,P.underlying t=some (.pointer e)∧tyN P d e=some τ:=by
 obtain⟨i,u,_,h2,_,h4⟩:=pD h
 unfold pI at h4
 cases u<;>simp only[reduceCtorEq] at h4<;>first
  | (obtain⟨a,ha,h⟩:=h4;simp only[reduceCtorEq,Ty.ptr.injEq] at h;subst h;exact⟨_,h2,ha⟩)
  | (obtain⟨a,_,h⟩:=h4;cases h)
  | (rcases qG h4 with h|⟨_,_,h⟩<;>cases h)
theorem A5b {d:Nat} {t:TypeId} {k:IntKind} (h:tyN P (d+1) t=some (.int k)):P.underlying t=some (.int k):=by
 obtain⟨i,u,_,h2,_,h4⟩:=pD h
 unfold pI at h4
 cases u<;>simp only[reduceCtorEq,Ty.int.injEq] at h4<;>first
  | (subst h4;exact h2)
  | (obtain⟨a,_,h⟩:=h4;cases h)
  | (rcases qG h4 with h|⟨_,_,h⟩<;>cases h)
end
end Go.Rf

end
section
namespace Go.Rf
set_option linter.unusedSectionVars false
variable [T:Laid]
section
variable {P:Program} {H:Nat→Option (List Value)} {N:Nat} {g g' σ:zW} {V V':Nat→Option Value} {w w':World} {S S':Nat→Prop} {β β':Key→Option Nat} {a:Act} {o:Oper}
variable {E:Env} {gv:zW} {us:List Up}
theorem A3q {t:Ty} (ht:t.size=1) {b o':Nat} {cs:Array Value} {x:List t.D} (h:t.D→Value) (hB:Blk w b cs) (hz:o'+Ac x * t.size≤cs.size)
  (hx:∀ (i:Nat) (y:t.D),nth x i=some y→win cs.toList (o'+i * t.size) t.size=[h y]):zD w (Ac x) (.mem b o')=some (x.map h):=by
 rw[ht,Nat.mul_one] at hz
 rw[zJ hB hz]
 congr 1
 apply AB
 intro i
 rw[rL]
 by_cases hi:i < x.length
 ·rw[Ar hi]
  have:=hx i x[i] (by simp[nth,hi])
  rw[ht,Nat.mul_one] at this
  have h2:=Am (fun l=>l[0]?) this
  simp only[rL] at h2
  simp only[Bd] at h2
  rw[Ar (by decide)] at h2
  rw[h2];simp[hi]
 ·rw[Aq hi];exact (AQ (by rw[List.length_map];omega)).symm
theorem A5U {k:IntKind} {x:List Int} {c:List Value} (h:Rd S w (.sl (.int k)) x c):
  ∃ ad cap,c=[.slice ad x.length cap]∧x.length≤cap∧∀ b,ad=some b→x≠[]→b.spot=none∧zD w x.length (.mem b.block b.off)=some (x.map (Value.int k)):=by
 simp only[Rd] at h
 obtain⟨ad,cap,rfl,hl,h⟩:=h
 refine⟨ad,cap,rfl,hl,fun b hb hx=>?_⟩
 rcases h with h|⟨b',o',cs,rfl,hs,hB,hz,h⟩
 ·exact absurd h hx
 ·simp only[Aa] at hb;subst hb
  exact⟨rfl,A3q (t:=.int k) rfl (Value.int k) hB hz (fun i y hy=>h i y hy)⟩
theorem fM {ad:Addr}:(loadCells ad 0).run P w=.ok #[] w:=by simp[loadCells,loadCellsFrom]
theorem A0D {k:IntKind} {x:List Int} {c:List Value} {b:Addr} {cap:Nat} (h:Rd S w (.sl (.int k)) x c) (hc:c=[.slice (some b) x.length cap]):(loadCells b x.length).run P w=.ok (x.map (Value.int k)).toArray w:=by
 obtain⟨ad,cap',e,_,h⟩:=A5U h
 rw[hc] at e
 simp only[Ax,Be,Bm,Bc] at e
 cases x with
 | nil=>simp[loadCells,loadCellsFrom]
 | cons y x=>
  obtain⟨h1,h2⟩:=h b e.1.symm (by simp)
  obtain⟨bb,oo,sp⟩:=b
  simp only at h1 h2
  subst h1
  exact oJ h2
theorem Ao1 {s t e:TypeId} {ad:Option Addr} {cap:Nat} {xs:List Int} {c:List Value} (hse:P.underlying s=some (.slice e)) (he':P.underlying e=some (.int .u8)) (ht:P.underlying t=some .string)
  (hr:Rd S w (.sl (.int .u8)) xs c) (e4:c=[.slice ad xs.length cap]):(convert s t (.slice ad xs.length cap)).run P w=.ok (.string ⟨⟨Bl (fun n:Int=>UInt8.ofNat n.toNat) xs⟩⟩) w:=by
 rw[run_convert_bytes_string w s t e ad _ cap hse he' ht]
 cases ad with
 | none=>
  have:xs=[]:=by
   simp only[Rd] at hr
   obtain⟨ad',cap',e5,_,h⟩:=hr
   rw[e4] at e5
   simp only[Ax,Be,Bm] at e5
   rcases h with h|⟨b,o',cs,h,_⟩
   ·exact h
   ·rw[← e5.1] at h;cases h
  subst this
  simp[Conv.bytesToString];rfl
 | some b=>
  rw[run_bytesToString (P:=P) w b xs.length cap xs (A0D hr e4),foldl_push_bytes]
  congr 2
  apply ByteArray.ext
  simp
theorem A1G {s t:TypeId} {x:Operand} (hc:Ctx E.P H S β a w o g) (hs:Sub gv g) (ho:o.op=.convert s t x)
  (hno:¬ (E.ty s=some .str∧E.ty t=some (.sl (.int .u8))))
  (hk:Af8 (E.ty s) (E.ty t) (yK gv (sv gv x)) (fun d=>rW o [] (.dat d) some)=some us):yF E.P H S β a w o (g.ups us):=by
 cases hd:yK gv (sv gv x) with
 | none=>rw[hd] at hk;unfold Af8 at hk;split at hk<;>first|cases hk|(rename_i e;cases e)
 | some d=>
  rw[hd] at hk
  obtain⟨c,hcv,hr⟩:=tM hc.rel (uD hs hd)
  have ex:=zH hcv
  unfold Af8 at hk
  split at hk
  ·rename_i k1 k2 k3 n f e1 e2 e3
   simp only[Aa] at e3;subst e3
   simp only[Rd] at hr;subst hr
   have ht:=A2w e2
   have hu:∃ u,E.P.underlying s=some u:=⟨_,A2w e1⟩
   refine DV.int.look hc.rel hc.dead hc.opIn hk ?_
   simp[execOp,ho,ex,zV,Ty.agg,convert,zC (A2w e1),zC ht,Conv.intToInt]
  ·rename_i s' f e1 e2 e3
   simp only[Aa] at e3;subst e3
   simp only[Rd] at hr;subst hr
   refine DV.str.look hc.rel hc.dead hc.opIn hk ?_
   simp[execOp,ho,ex,zV,Ty.agg,convert,zC (AK2 e1),zC (AK2 e2)]
  ·rename_i xs f e1 e2 e3
   simp only[Aa] at e3;subst e3
   split at hk
   ·obtain⟨e,hse,he⟩:=AN0 e1
    have he':=A5b he
    obtain⟨ad,cap,e4,hl,_⟩:=A5U hr
    have hval:a.eval x=.slice ad xs.length cap:=by rw[ex,e4];rfl
    refine DV.str.look hc.rel hc.dead hc.opIn hk ?_
    have hrun:=Ao1 hse he' (AK2 e2) hr e4
    have hx:(execOp a.eval o).run E.P w=((convert s t (a.eval x)).run E.P w).andThen (fun v w'=>.ok (.value v) w'):=by simp only[execOp,ho,Sem.run_bind,Sem.run_pure]
    rw[hx,hval]
    exact Am (fun r:Result Value=>Result.andThen r fun v w'=>Result.ok (Next.value v) w') hrun
   ·cases hk
  ·rename_i e1 e2 e3
   exact absurd ⟨e1,e2⟩ hno
  ·cases hk
theorem Ay5 {ρ:Operand→Value} {c:Call} {b:Builtin} (ho:o.op=.call c) (hcal:c.callee=.builtin b):
  (execOp ρ o).run P w=(builtin b c.argTypes o.type (c.args.map fun|.const _=>true|_=>false) (c.args.map ρ)).run P w:=by
 unfold execOp
 simp only[ho,resolve,hcal,Sem.run_bind,Sem.run_pure,Result.andThen_ok]
 rfl
theorem jC {ρ:Operand→Value} {c:Call} {b:Builtin} {val:Value} {s:Sem Value} (ho:o.op=.call c) (hcal:c.callee=.builtin b)
  (hb:builtin b c.argTypes o.type (c.args.map fun|.const _=>true|_=>false) (c.args.map ρ)=(do pure (.value (← s)))) (hr:s.run P w=.ok val w'):
  (execOp ρ o).run P w=.ok (.value val) w':=by
 rw[Ay5 ho hcal,hb]
 simp only[Sem.run_bind,hr,Result.andThen_ok,Sem.run_pure]
theorem A5E (m n:Int):As8 m n=if n < m then n else m:=by unfold As8;by_cases h:n < m<;>simp[h]
theorem A38 {t ty:TypeId} {x:Operand} {c:Call} (hc:Ctx E.P H S β a w o g) (hs:Sub gv g) (ho:o.op=.call c) (hcal:c.callee=.builtin .len) (hargs:c.args=#[x]) (hts:c.argTypes=#[t])
  (hk:BG7 gv o (E.ty t) x some=some us):yF E.P H S β a w o (g.ups us):=by
 have run:∀ val,(AC #[t] o.type #[a.eval x]).run E.P w=.ok val w→(execOp a.eval o).run E.P w=.ok (.value val) w:=fun val h=>
  jC ho hcal (s:=AC #[t] o.type #[a.eval x]) (by rw[hargs,hts,show Array.map a.eval #[x]=#[a.eval x] by simp];rfl) h
 unfold BG7 at hk
 split at hk
 ·rename_i s f e1 e2
  obtain⟨c',hcv,hr⟩:=tM hc.rel (uD hs e2)
  simp only[Rd] at hr;subst hr
  refine DV.int.look hc.rel hc.dead hc.opIn hk (run _ ?_)
  rw[zH hcv]
  exact run_len_string w t o.type _ (AK2 e1)
 ·rename_i τ τ' s f e1 e2
  obtain⟨c',hcv,hr⟩:=tM hc.rel (uD hs e2)
  simp only[Rd] at hr
  obtain⟨ad,cap,rfl,_⟩:=hr
  obtain⟨e,he,_⟩:=AN0 e1
  refine DV.int.look hc.rel hc.dead hc.opIn hk (run _ ?_)
  rw[zH hcv]
  simp[zV,Ty.agg,AC,zC he,goInt]
 ·rename_i n τ e1
  obtain⟨e,he,_⟩:=Ab5 e1
  refine DV.int.look hc.rel hc.dead hc.opIn hk (run _ ?_)
  simp[AC,zC he,goInt]
 ·rename_i n τ e1
  obtain⟨e,he,h2⟩:=BD0 e1
  obtain⟨e',he',_⟩:=Ab5 (d:=6) h2
  refine DV.int.look hc.rel hc.dead hc.opIn hk (run _ ?_)
  simp[AC,zC he,zC he',goInt]
 ·split at hk
  ·rename_i τ _ _ _ _ e1 e2
   obtain⟨e,he,_⟩:=AN0 e1
   have hx:a.eval x=.slice none 0 0:=by
    rcases fZ (hs.sv e2 (by simp)) with ⟨s,rfl,h⟩| rfl
    ·have:=hc.rel.slots s
     rw[h] at this;exact this.elim
    ·rfl
   refine DV.int.look hc.rel hc.dead hc.opIn hk (run _ ?_)
   rw[hx]
   simp[AC,zC he,goInt]
  ·cases hk
theorem BA4 {ats:Array TypeId} {ty:TypeId} {k:IntKind} {m n:Int}:(Bf ats ty #[.int k m,.int k n]).run P w=.ok (.int k (As8 m n)) w:=by
 rw[A5E];simp[Bf,Builtin.min2]
theorem An3 {t:TypeId} {k:IntKind} {n:Int} {s:List UInt8} (h:P.underlying t=some .string) (h1:zA n=true) (h2:AE n.toNat s.length=true):
  (AV t (.string ⟨⟨s⟩⟩) (.int k n)).run P w=.ok (.int .u8 ((s.getD n.toNat 0).toNat:Int)) w:=by
 simp only[zA,Aj] at h1
 simp only[AK] at h2
 have hsz:((⟨⟨s⟩⟩:ByteArray).size:Int)=s.length:=rfl
 rw[run_index_string w t _ _ _ h,dif_pos ⟨h1,by rw[hsz];omega⟩]
 congr 4
 show s.toArray[n.toNat]'(by simpa using h2)=_
 simp[Ak,h2]
theorem AW1 {e:TypeId} {d:Nat} {τ:Ty} {c:List Value} {i:Nat} (h7:tyN P (d+1) e=some τ) (hle:i+τ.size≤c.length):(part e c.toArray i).run P w=.ok (zV τ (win c i τ.size)) w:=by
 unfold part
 simp only[Sem.run_bind,Ah5 h7,Result.andThen_ok]
 unfold zV
 cases hag:τ.agg with
 | true=>
  simp only[Au,Sem.run_bind,uF h7,Result.andThen_ok,Sem.run_pure]
  congr 2
  apply AD.1
  simp[win,List.extract_eq_take_drop]
 | false=>
  have hs1:τ.size=1:=by cases τ<;>simp_all[Ty.agg,Ty.size]
  rw[hs1] at hle ⊢
  have hw0:(win c i 1)[0]?=c[i]?:=by rw[rL];simp
  simp only[A3,if_false]
  have hi:i < c.length:=by omega
  have hg:c.toArray[i]?=some c[i]:=by simp[hi]
  rw[hg]
  simp only[Sem.run_pure]
  congr 1
  rw[List.headD_eq_head?_getD,List.head?_eq_getElem?,hw0]
  simp[hi]
theorem As7 {t e:TypeId} {d:Nat} {τ:Ty} {k:IntKind} {n:Int} {m:Nat} {c:List Value} (he:P.underlying t=some (.array m e)) (h7:tyN P (d+1) e=some τ) (h1:zA n=true) (h2:AE n.toNat m=true)
  (hcl:c.length=m * τ.size):(AV t (.agg c.toArray) (.int k n)).run P w=.ok (zV τ (win c (n.toNat * τ.size) τ.size)) w:=by
 simp only[zA,Aj] at h1
 simp only[AK] at h2
 have hle:(n.toNat+1) * τ.size≤m * τ.size:=Af _ h2
 rw[Ap,Nat.one_mul] at hle
 simp only[AV,asIntOf,Sem.run_bind,Sem.run_pure,Result.andThen_ok,zC he]
 have hn:0≤n∧n < (m:Int):=⟨h1,by omega⟩
 rw[Ar hn]
 simp only[Sem.run_bind,uF h7,Result.andThen_ok,AW1 h7 (show n.toNat * τ.size+τ.size≤c.length by omega)]
theorem Ai2 {ρ:Operand→Value} {t:TypeId} {x i:Operand} {val:Value} (ho:o.op=.index t x i) (hr:(AV t (ρ x) (ρ i)).run P w=.ok val w):(execOp ρ o).run P w=.ok (.value val) w:=by
 simp only[execOp,ho,Sem.run_bind,hr,Result.andThen_ok,Sem.run_pure]
theorem A40 {xs:List Operand} {c:Call} (hc:Ctx E.P H S β a w o g) (hs:Sub gv g) (ho:o.op=.call c) (hcal:c.callee=.builtin .min) (hargs:c.args.toList=xs)
  (hk:BG2 gv o xs some=some us):yF E.P H S β a w o (g.ups us):=by
 unfold BG2 at hk
 split at hk
 ·rename_i x y
  split at hk
  ·rename_i k m k' n hx hy
   split at hk
   ·rename_i e;subst e
    have ex:=zH (gS hc.rel (hs.sv hx (by simp)) kA)
    have ey:=zH (gS hc.rel (hs.sv hy (by simp)) kA)
    have hargs':c.args=#[x,y]:=AD.1 hargs
    refine DV.int.look hc.rel hc.dead hc.opIn hk ?_
    refine jC ho hcal (s:=Bf c.argTypes o.type #[a.eval x,a.eval y]) (by rw[hargs',show Array.map a.eval #[x,y]=#[a.eval x,a.eval y] by simp];rfl) ?_
    rw[ex,ey]
    exact BA4
   ·cases hk
  ·cases hk
 ·cases hk
theorem A0H {t:TypeId} {x i:Operand} (hc:Ctx E.P H S β a w o g) (hs:Sub gv g) (ho:o.op=.index t x i)
  (hk:Ak6 gv o (E.ty t) x i some=some us):yF E.P H S β a w o (g.ups us):=by
 unfold Ak6 at hk
 split at hk
 ·rename_i s k n e1 hx hi
  have ex:=zH (A3I hc.rel (hs.sv hx (by simp)) kA)
  have ei:=zH (gS hc.rel (hs.sv hi (by simp)) kA)
  simp only[At] at hk
  split at hk
  ·rename_i h1
   split at hk
   ·rename_i h2
    refine DV.int.look hc.rel hc.dead hc.opIn hk (Ai2 ho ?_)
    rw[ex,ei]
    exact An3 (AK2 e1) h1 h2
   ·cases hk
  ·cases hk
 ·rename_i m τ m' τ' xs k n e1 hx hi
  split at hk
  ·rename_i hmt
   simp only[Ae,Aj] at hmt
   obtain⟨rfl,rfl⟩:=hmt
   have ei:=zH (gS hc.rel (hs.sv hi (by simp)) kA)
   simp only[At] at hk
   split at hk
   ·rename_i h1
    split at hk
    ·rename_i h2
     obtain⟨e,he,h7⟩:=Ab5 e1
     have hr:∃ c,evl (qD a) x=some (zV (.arr m τ') c)∧Rd S w (.arr m τ') xs c:=by
      rcases pP hc.rel (hs.sv hx (by simp)) with ⟨s,rfl,hs'⟩| ⟨_,c,hcc,hr⟩
      ·obtain⟨c,hv,hV⟩:=hc.rel.dat hs'
       exact⟨c,hV,yO.1 hv⟩
      ·exact⟨c,hcc,hr⟩
     obtain⟨c,hcv,hr⟩:=hr
     have ex:a.eval x=.agg c.toArray:=zH hcv
     simp only[Rd] at hr
     obtain⟨hl,hcl,hr⟩:=hr
     have h2':=h2
     simp only[AK] at h2'
     have hr:=hr n.toNat _ (sZ (z:=τ'.dflt) (by omega))
     refine DV.look (d:=⟨τ',Ak xs n.toNat τ'.dflt,.sh⟩) ⟨rfl,_,hr,rfl⟩ hc.rel hc.dead hc.opIn hk (Ai2 ho ?_)
     rw[ex,ei]
     exact As7 he h7 h1 h2 hcl
    ·cases hk
   ·cases hk
  ·cases hk
 ·cases hk
end
end Go.Rf

end
section
namespace Go.Rf
set_option linter.unusedSectionVars false
variable [T:Laid]
section
variable {P:Program} {H:Nat→Option (List Value)} {N:Nat} {g g' σ:zW} {V V':Nat→Option Value} {w w':World} {S S':Nat→Prop} {β β':Key→Option Nat} {a:Act} {o:Oper}
variable {E:Env} {gv:zW} {us:List Up}
theorem A9t (a b:Int):(a == b)=eqI a b:=by
 unfold eqI;rw[AG];simp
theorem BE6 (a b:List UInt8):(a == b)=eqS a b:=by
 unfold eqS;rw[AG];simp
theorem A79 (a b:List UInt8):(Bi ⟨⟨a⟩⟩ == Bi ⟨⟨b⟩⟩)=eqS a b:=by
 rw[ByteArray.toList_mk,ByteArray.toList_mk];exact BE6 a b
theorem A0i {k m d:Nat} (IH:∀ (t:TypeId) (τ:Ty) (x y:τ.D) (cx cy:List Value),A9x P m t=true→tyN P k t=some τ→Rd S w τ x cx→Rd S w τ y cy→(AA d t (zV τ cx) (zV τ cy)).run P w=.ok (eqD τ x y) w) {cx cy:List Value}:
  ∀ (fs:List Field) (off:Nat) (τ:Ty) (x y:τ.D),off≤cx.length→off≤cy.length→qU (tyN P k) fs off=some τ→(∀ f ∈ fs,f.name ≠ "_" ∧ A9x P m f.type=true)→Rd S w τ x (cx.drop off)→Rd S w τ y (cy.drop off) →
   (Op.eqFields d cx.toArray cy.toArray fs).run P w=.ok (eqD τ x y) w
 | [],off,τ,x,y,_,_,hc,hall,hx,hy=>by
  simp only[qU,Aa] at hc
  subst hc
  simp[Op.eqFields,eqD]
 | f :: fs,off,τ,x,y,ox,oy,hc,hall,hx,hy=>by
  simp only[qU] at hc
  split at hc
  ·rename_i b hb
   split at hc
   ·rename_i ho
    have ho:f.offset=off:=by simpa[A2] using ho
    obtain⟨r,hr,rfl⟩:=Ah.1 hc
    obtain⟨hn,hk⟩:=hall f (List.mem_cons_self ..)
    simp only[Rd] at hx hy
    have lx:=tC hx.1
    have ly:=tC hy.1
    have e1:(cx.drop off).take b.size=win cx off b.size:=rfl
    have e2:(cy.drop off).take b.size=win cy off b.size:=rfl
    rw[e1] at hx lx
    rw[e2] at hy ly
    have bx:off+b.size≤cx.length:=by simp[win] at lx;omega
    have by':off+b.size≤cy.length:=by simp[win] at ly;omega
    obtain⟨k',rfl⟩:∃ k',k=k'+1:=by
     cases k with
     | zero=>simp[tyN] at hb
     | succ k'=>exact⟨k',rfl⟩
    have px:(part f.type cx.toArray f.offset).run P w=.ok (zV b (win cx off b.size)) w:=by
     rw[ho];exact AW1 hb bx
    have py:(part f.type cy.toArray f.offset).run P w=.ok (zV b (win cy off b.size)) w:=by
     rw[ho];exact AW1 hb by'
    have hi:=IH f.type b x.1 y.1 _ _ hk hb hx.1 hy.1
    have hrest:=A0i IH fs (off+b.size) r x.2 y.2 bx by' hr (fun g hg=>hall g (List.mem_cons_of_mem _ hg)) (by rw[← AS];exact hx.2) (by rw[← AS];exact hy.2)
    simp only[Op.eqFields,hn,ne_eq,not_false_eq_true,Au,Sem.run_bind,px,py,hi,Result.andThen_ok]
    show _=Result.ok (eqD b x.1 y.1&&eqD r x.2 y.2) w
    cases eqD b x.1 y.1 with
    | false=>simp
    | true=>simpa using hrest
   ·cases hc
  ·cases hc
theorem At5:∀ (m k d:Nat) (t:TypeId) (τ:Ty) (x y:τ.D) (cx cy:List Value),A9x P m t=true→tyN P k t=some τ→m≤d→Rd S w τ x cx→Rd S w τ y cy→(AA d t (zV τ cx) (zV τ cy)).run P w=.ok (eqD τ x y) w
 | 0,_,_,_,_,_,_,_,_,h,_,_,_,_=>by simp[A9x] at h
 | m+1,0,_,_,_,_,_,_,_,_,h,_,_,_=>by simp[tyN] at h
 | m+1,k+1,0,_,_,_,_,_,_,_,_,h,_,_=>by omega
 | m+1,k+1,d+1,t,τ,x,y,cx,cy,hok,ht,hd,hx,hy=>by
  obtain⟨i,u,h1,h2,h3,h4⟩:=pD ht
  unfold A9x at hok
  rw[h2] at hok
  unfold pI at h4
  cases u<;>simp only[reduceCtorEq,A3] at hok h4
  case int j=>
   subst h4
   simp only[Rd] at hx hy
   subst hx;subst hy
   show (AA (d+1) t (.int j x) (.int j y)).run P w=_
   rw[run_equalIn_int w d t j j x y h2]
   exact Am (fun z=>Result.ok z w) (A9t x y)
  case bool=>
   subst h4
   simp only[Rd] at hx hy
   subst hx;subst hy
   show (AA (d+1) t (.bool x) (.bool y)).run P w=_
   rw[run_equalIn_bool' w d t x y h2]
   cases x<;>cases y<;>rfl
  case string=>
   subst h4
   simp only[Rd] at hx hy
   subst hx;subst hy
   show (AA (d+1) t (.string ⟨⟨x⟩⟩) (.string ⟨⟨y⟩⟩)).run P w=_
   rw[run_equalIn_string w d t _ _ h2]
   exact Am (fun z=>Result.ok z w) (A79 x y)
  case struct fs=>
   simp only[Ae,A6,List.all_eq_true,bne_iff_ne,ne_eq] at hok
   have hag:τ.agg=true:=by rcases qG h4 with e|⟨_,_,e⟩<;>rw[e]<;>rfl
   have hf:P.fieldsOf t=fs:=by unfold Program.fieldsOf;rw[h2]
   unfold zV
   rw[hag]
   show (AA (d+1) t (.agg cx.toArray) (.agg cy.toArray)).run P w=_
   rw[run_equalIn_struct w d t _ _ (by rw[hf];exact h2) hok.1,hf]
   exact A0i (fun t τ x y cx cy e1 e2 e3 e4=>At5 m k d t τ x y cx cy e1 e2 (by omega) e3 e4) fs.toList 0 τ x y (Bj _) (Bj _) h4 (fun f hf=>⟨(hok.2 f hf).1,(hok.2 f hf).2⟩) hx hy
theorem A4e {op:BinOp} {t tq:TypeId} {x y:Operand} (hc:Ctx E.P H S β a w o g) (hs:Sub gv g) (ho:o.op=.binOp op t x y tq)
  (hk:BG3 E op t (sv gv x) (sv gv y) (fun d=>rW o [] (.dat d) some)=some us):yF E.P H S β a w o (g.ups us):=by
 unfold BG3 at hk
 split at hk
 ·rename_i A B p A' B' q hx hy
  split at hk
  ·rename_i q' hq
   unfold oV at hq
   split at hq
   ·rename_i e
    have free:∀ (z:Operand) (τ:Ty) (v:τ.D),sv gv z=.dat ⟨τ,v,.sh⟩→∃ c,Rd S w τ v c∧a.eval z=zV τ c:=by
     intro z τ v hz
     rcases pP hc.rel (hs.sv hz (by simp)) with ⟨s,rfl,hs'⟩| ⟨_,c,hcc,hr⟩
     ·obtain⟨c,hv,hV⟩:=hc.rel.dat hs'
      rw[yO] at hv
      exact⟨c,hv,zH hV⟩
     ·exact⟨c,hr,zH hcc⟩
    obtain⟨c1,r1,e1⟩:=free x _ p hx
    obtain⟨c2,r2,e2⟩:=free y _ q hy
    cases e
    simp only[Aa] at hq
    subst hq
    split at hk
    ·rename_i hcond
     obtain⟨ht,hok,hg⟩:=hcond
     have hrun:=At5 (P:=E.P) (S:=S) (w:=w) 8 8 10000 t _ p q c1 c2 hok ht (by omega) r1 r2
     have hgd:(eqGuard op t x y (.agg c1.toArray) (.agg c2.toArray)).run E.P w=.ok () w:=run_eqGuard_agg w op t x y _ _ hg
     have hrun:(AA 10000 t (.agg c1.toArray) (.agg c2.toArray)).run E.P w=.ok (eqD (.pair A B) p q) w:=hrun
     split at hk
     ·refine DV.bool.look hc.rel hc.dead hc.opIn hk (fD ⟨_,ho⟩ e1 e2 hgd ?_)
      show (binOp .eql t (.agg c1.toArray) (.agg c2.toArray)).run E.P w=_
      rw[run_eql_struct,hrun];rfl
     ·refine DV.bool.look hc.rel hc.dead hc.opIn hk (fD ⟨_,ho⟩ e1 e2 hgd ?_)
      show (binOp .neq t (.agg c1.toArray) (.agg c2.toArray)).run E.P w=_
      rw[run_neq_struct,hrun];rfl
     ·cases hk
    ·cases hk
   ·cases hq
  ·cases hk
 ·exact A3b hc hs ho hk
theorem A3s {op:BinOp} {t tq:TypeId} {x y:Operand} (hc:Ctx E.P H S β a w o g) (hs:Sub gv g) (ho:o.op=.binOp op t x y tq) (hy:A63 y=true)
  (hk:BF8 gv o op (E.ty t) x some=some us):yF E.P H S β a w o (g.ups us):=by
 have hyv:a.eval y=.slice none 0 0:=by
  unfold A63 at hy
  split at hy
  ·rfl
  ·cases hy
 have key:∀ (τ τ':Ty) (z:(Ty.sl τ').D) (f:Fl),E.ty t=some (.sl τ)→yK gv (sv gv x)=some ⟨.sl τ',z,f⟩→∃ ad l cap e,a.eval x=.slice ad l cap∧E.P.underlying t=some (.slice e)∧(Ag (Ac z) 0=false→ad.isNone=false):=by
  intro τ τ' z f h1 h2
  obtain⟨c,hv,hr⟩:=tM hc.rel (uD hs h2)
  simp only[Rd] at hr
  obtain⟨ad,cap,rfl,_,hz⟩:=hr
  obtain⟨i,u,_,q2,_,q4⟩:=pD (P:=E.P) h1
  unfold pI at q4
  cases u<;>simp only[reduceCtorEq,exists_false,and_false] at q4
  case slice e=>
   refine⟨ad,_,cap,e,zH hv,q2,fun hl=>?_⟩
   rcases hz with rfl|⟨b,o,cs,rfl,_⟩
   ·cases hl
   ·rfl
  case struct fs=>
   exfalso
   rcases qG q4 with e|⟨_,_,e⟩<;>cases e
 unfold BF8 at hk
 have fin:∀ b:Bool,(execOp a.eval o).run E.P w=.ok (.value (.bool b)) w→rW o [] .unk some=some us→yF E.P H S β a w o (g.ups us):=by
  intro b hr hk
  obtain⟨dd,hdst,rfl⟩:=yG hk
  have hd:dd < a.tmps.size:=by
   have hi:=hc.opIn
   unfold opIn at hi;rw[hdst] at hi
   simp only[Ae] at hi
   simpa[AK] using hi.1
  exact AO2 hc.rel hc.dead hdst hd hr (by simp only[rR];exact⟨b,by simp[upd]⟩)
 split at hk
 ·rename_i h1 h2
  obtain⟨ad,l,cap,e,ex,hu,hn⟩:=key _ _ _ _ h1 h2
  have hr:=fD (P:=E.P) (w:=w) (o:=o) (ρ:=a.eval) (val:=.bool ad.isNone) ⟨_,ho⟩ ex hyv (by simp[eqGuard]) (by
   simp only[binOp]
   simp[run_equal_slice_nil w t e ad l cap hu])
  revert hk
  cases hb:Ag _ 0 with
  | true=>exact fun hk=>fin _ hr hk
  | false=>exact fun hk=>DV.bool.look hc.rel hc.dead hc.opIn hk (by rw[← hn hb];exact hr)
 ·rename_i h1 h2
  obtain⟨ad,l,cap,e,ex,hu,hn⟩:=key _ _ _ _ h1 h2
  have hr:=fD (P:=E.P) (w:=w) (o:=o) (ρ:=a.eval) (val:=.bool (!ad.isNone)) ⟨_,ho⟩ ex hyv (by simp[eqGuard]) (by
   simp only[binOp]
   simp[run_equal_slice_nil w t e ad l cap hu])
  revert hk
  cases hb:Ag _ 0 with
  | true=>exact fun hk=>fin _ hr hk
  | false=>exact fun hk=>DV.bool.look hc.rel hc.dead hc.opIn hk (by rw[show true=!ad.isNone by rw[hn hb];rfl];exact hr)
 ·cases hk
end
end Go.Rf

end
section
namespace Go.Rf
set_option linter.unusedSectionVars false
variable [T:Laid]
section
variable {P:Program} {H:Nat→Option (List Value)} {N:Nat} {g g' σ:zW} {V V':Nat→Option Value} {w w':World} {S S':Nat→Prop} {β β':Key→Option Nat} {a:Act} {o:Oper}
variable {E:Env} {gv:zW} {us:List Up}
theorem xF {n d:Nat} (h:opIn n o=true) (ho:o.dst=some d):d < n:=by
 unfold opIn at h;rw[ho] at h
 simp only[Ae] at h
 simpa[AK] using h.1
theorem Rel.land {g1:zW} {V1:Nat→Option Value} {n d:Nat} {e:Dat} {val:Value} (h:Rel H N g1 V1 w S β) (hn:(g1 n).sv=.dat e) (hN:N≤n) (hval:V1 n=some val)
  (hg:∀ i,i < N→g1 i=g i) (hD:yD N g) (hV:∀ i,i < N→V1 i=V i) (hd:d < N):Rel H N (g.up (.put d (.dat e))) (upd V d val) w S (Rf.rekey β [n] [d]):=by
 obtain⟨c,hv,hc⟩:=h.dat hn
 have h1:Rel H N (g1.up (.put n .dead)) V1 w S β:=h.kill fun _ _=>rfl
 refine h1.finish (V1:=V1) (fun i hi=>?_) hD hV hd (h1.sane.rekey _ _) (fun b hb=>⟨hb,rfl⟩) (fun j s b hj ha hb=>⟨?_,rfl⟩) ⟨c,qH hv,?_⟩
 ·rw[rF (by omega)];exact hg i hi
 ·have hjn:j≠n:=fun e'=>by subst e';exact ha (by rw[vD])
  rw[xX (zZ hj) (zZ hjn)];exact hb
 ·rw[hval] at hc
  simp only[upd,Au,Aa] at hc ⊢
  exact hc
theorem kS {n i:Nat} {d:Dat} (h:i≠n):upN g n d i=g i:=rF h
theorem jA {n:Nat} {d:Dat}:(upN g n d n).sv=.dat d:=by rw[upN,vD]
theorem iG {mv:Bool} {t:Option Ty} {x:Operand} {d:Dat} {us:List Up} (ht:take g mv t x (sv g x)=some (d,us)):∀ u ∈ us,(g u.slot).sv≠.dead:=by
 cases hv:sv g x with
 | dead=>rw[hv] at ht;simp[take] at ht
 | und=>rw[hv] at ht;simp[take] at ht
 | unk=>rw[hv] at ht;simp[take] at ht
 | tup d=>rw[hv] at ht;simp[take] at ht
 | adr _ _ _ _=>rw[hv] at ht;simp[take] at ht
 | nils=>
  rw[hv] at ht
  simp only[take] at ht
  split at ht
  ·simp only[Aa,Ab] at ht;rw[← ht.2];simp
  ·cases ht
 | clo f rs=>
  rw[hv] at ht
  cases rs with
  | nil=>simp only[take,Aa,Ab] at ht;rw[← ht.2];simp
  | cons a rs=>simp[take] at ht
 | dat e=>
  rw[hv] at ht
  simp only[take] at ht
  split at ht
  ·simp only[Aa,Ab] at ht;rw[← ht.2];simp
  ·split at ht
   ·split at ht
    ·rename_i s
     simp only[Aa,Ab] at ht;rw[← ht.2]
     have:(g s).sv=.dat e:=hv
     simp[Up.slot,this]
    ·cases ht
   ·cases ht
 | als r p c s=>
  rw[hv] at ht
  simp only[take] at ht
  split at ht
  ·split at ht
   ·rename_i e he
    split at ht
    ·split at ht
     ·simp only[Aa,Ab] at ht;rw[← ht.2];simp
     ·split at ht
      ·split at ht<;>simp only[Aa,Ab] at ht<;>rw[← ht.2]<;>simp[Up.slot,he]
      ·cases ht
    ·cases ht
   ·cases ht
  ·cases ht
 | pend r p c s u e=>
  rw[hv] at ht
  simp only[take] at ht
  split at ht
  ·rename_i j
   split at ht
   ·split at ht
    ·rename_i e' he
     simp only[Aa,Ab] at ht;rw[← ht.2]
     have:(g j).sv=_:=hv
     simp[Up.slot,he,this]
    ·cases ht
   ·cases ht
  ·cases ht
theorem BA0 {mv:Bool} {t:Option Ty} {x:Operand} {d:Dat} {dd:Nat} (hc:Ctx P H S β a w o g) (hs:Sub gv g) (ht:take gv mv t x (sv gv x)=some (d,us)) (ho:o.dst=some dd)
  (hr:∀ v,a.eval x=v→(execOp a.eval o).run P w=.ok (.value v) w):yF P H S β a w o (g.ups (us++[.put dd (.dat d)])):=by
 obtain⟨ht',_⟩:=fN hs ht
 obtain⟨S1,β1,c,h1,h2,h3,h4⟩:=jY hc.rel ht' (n:=a.tmps.size) (hc.dead _ (Ai _)) (Ai _)
 intro K Q hK
 have hd:=xF hc.opIn ho
 have hD:yD a.tmps.size (g.ups us):=hc.dead.ups fun u hu=>hc.dead.lt (iG ht' u hu)
 refine uH (hr _ (zH h3)) (hK _ _ S1 (rekey β1 [a.tmps.size] [dd]) wG yN ?_ (h2.trans (.rekey _ _)))
 rw[ho,vE hd,yQ]
 exact h1.land jA (Ai _) (by simp[upd]) (fun i hi=>kS (by omega)) hD (fun i hi=>by simp only[upd];rw[Aq (by omega)]) hd
theorem A5n {d r c s:Nat} {p:List PS} {v:SV} {val:Value} (h0:r < N) (h1:c≤(g r).c) (h2:s≤(g r).s) (h:okA g r c s=true→BN7 g V w r p (some val)):
  rR H N (g.up (.put d v)) (upd V d val) w S β d (.als r p c s):=by
 refine⟨h0,?_⟩
 by_cases e:r=d
 ·subst e
  refine⟨by rw[vD];simp;omega,by rw[vD];simp;omega,fun ok=>?_⟩
  have:=(dU.1 ok).2
  rw[vD] at this;simp at this;omega
 ·refine⟨by rw[rF e];exact h1,by rw[rF e];exact h2,fun ok dr hdr=>?_⟩
  rw[rF e] at hdr
  rw[Sub.okA (rF e)] at ok
  obtain⟨cr,d',L,c',k1,k⟩:=h ok dr hdr
  refine⟨cr,d',L,c',by simp only[upd];rw[Aq e];exact k1,?_⟩
  simpa[upd] using k
theorem A1K {d r c s:Nat} {p:List PS} {v:SV} {val:Value} (h0:r < N) (h1:c≤(g r).c) (h2:s≤(g r).s) (h:okB g r p c s=true→BN4 g V w r p (some val)):
  rR H N (g.up (.put d v)) (upd V d val) w S β d (.adr r p c s):=by
 refine⟨h0,?_⟩
 by_cases e:r=d
 ·subst e
  refine⟨by rw[vD];simp;omega,by rw[vD];simp;omega,fun ok=>?_⟩
  have:=(iX.1 ok).1
  rw[vD] at this;simp at this;omega
 ·refine⟨by rw[rF e];exact h1,by rw[rF e];exact h2,fun ok dr hdr=>?_⟩
  rw[rF e] at hdr
  rw[Sub.okB (rF e)] at ok
  obtain⟨cr,t,b,o,k1,k⟩:=h ok dr hdr
  refine⟨cr,t,b,o,by simp only[upd];rw[Aq e];exact k1,?_⟩
  simpa[upd] using k
theorem A08 {d:Nat} {f:FuncId} {rs:List (Nat × Nat)} {v:SV} {val:Value} (h1:∀ x ∈ rs,x.1 < N∧x.2≤(g x.1).s) (h:(∀ x ∈ rs,(g x.1).s=x.2)→BR8 V f rs (some val)):
  rR H N (g.up (.put d v)) (upd V d val) w S β d (.clo f rs):=by
 have hmem:∀ x ∈ rs,x.2≤((g.up (.put d v)) x.1).s∧(((g.up (.put d v)) x.1).s=x.2→x.1≠d∧(g x.1).s=x.2):=fun x hx=>by
  have:=(h1 x hx).2
  by_cases e:x.1=d
  ·rw[e,vD]
   rw[e] at this
   simp only
   exact⟨by omega,fun h=>by omega⟩
  ·rw[rF e];exact⟨this,fun h=>⟨e,h⟩⟩
 refine⟨fun x hx=>⟨(h1 x hx).1,(hmem x hx).1⟩,fun hall vs hvs=>?_⟩
 have:(upd V d val) d=some val:=by simp[upd]
 rw[this]
 refine h (fun x hx=>((hmem x hx).2 (hall x hx)).2) vs ?_
 rw[← hvs]
 refine AH fun x hx=>?_
 simp only[upd];rw[Aq ((hmem x hx).2 (hall x hx)).1]
theorem yD.root (hD:yD N g) {r:Nat} {e:Dat} (he:(g r).sv=.dat e):r < N:=hD.lt (by rw[he];simp)
theorem A0Y {d r:Nat} {p:List PS} {v:SV} {val:Value} {e dd:Dat} {cr c:List Value} {L:Loc} (hr:r < N) (he:(g r).sv=.dat e) (hg:yJ p e.t e.f e.x=some dd) (hn:dd.f.base≠.gone) (hb:inB p e.t e.x)
  (hV:V r=some (zV e.t cr)) (hl:cr.length=e.t.size) (hw:vF w e.t (.reg cr) p=some (dd.t,L)) (hc:zD w dd.t.size L=some c) (hv:val=zV dd.t c):
  rR H N (g.up (.put d v)) (upd V d val) w S β d (AM1 g (r,p)):=by
 refine A5n hr (Ai _) (Ai _) fun _ dr hdr=>?_
 rw[he] at hdr
 simp only[SV.dat.injEq] at hdr
 subst hdr
 exact⟨cr,dd,L,c,hV,hl,hg,hn,hb,hw,hc,by rw[hv]⟩
theorem AJ4 {k:Key} {t:Ty} {f:Fl} {y:(Ty.ptr t).D} {c:List Value} (hf:f.base≠.gone) (h:zN S β H w k (.ptr t) f y c):∃ b,c=[.pointer (some ⟨b,0,none⟩)]:=by
 simp only[zN] at h
 replace h:=h.2
 cases hb:f.base with
 | own e=>rw[hb] at h;obtain⟨b,cs,rfl,_⟩:=h;exact⟨b,rfl⟩
 | gone=>exact absurd hb hf
 | _=>rw[hb] at h;simp only[Rd] at h;obtain⟨b,cs,rfl,_⟩:=h;exact⟨b,rfl⟩
theorem AZ8 {x:Operand} {ad:Addr} (ho:o.op=.nilCheck x) (hx:a.eval x=.pointer (some ad)):(execOp a.eval o).run P w=.ok (.value (.pointer (some ad))) w:=by
 simp[execOp,ho,hx]
theorem A3H {x:Operand} (ho:o.op=.move x∨o.op=.assign x):(execOp a.eval o).run P w=.ok (.value (a.eval x)) w:=by
 rcases ho with ho|ho<;>simp[execOp,ho]
theorem A3O {i r c s d:Nat} {p:List PS} {val:Value} (hc:Ctx P H S β a w o g) (hi:(g i).sv=.als r p c s) (hv:qD a i=some val) (ho:o.dst=some d)
  (hr:(execOp a.eval o).run P w=.ok (.value val) w):yF P H S β a w o (g.ups [.put d (.als r p c s)]):=by
 have hss:=hc.rel.slots i
 rw[hi] at hss
 obtain⟨h0,h1,h2,h3⟩:=hss
 exact AO2 hc.rel hc.dead ho (xF hc.opIn ho) hr (A5n h0 h1 h2 (by rw[hv] at h3;exact h3))
theorem An7 {i r c s d:Nat} {p:List PS} {val:Value} (hc:Ctx P H S β a w o g) (hi:(g i).sv=.adr r p c s) (hv:qD a i=some val) (ho:o.dst=some d)
  (hr:(execOp a.eval o).run P w=.ok (.value val) w):yF P H S β a w o (g.ups [.put d (.adr r p c s)]):=by
 have hss:=hc.rel.slots i
 rw[hi] at hss
 obtain⟨h0,h1,h2,h3⟩:=hss
 exact AO2 hc.rel hc.dead ho (xF hc.opIn ho) hr (A1K h0 h1 h2 (by rw[hv] at h3;exact h3))
theorem oK {s:Nat} (hs:s < a.tmps.size):qD a s=some (a.eval (.tmp s)):=by
 simp[qD,Act.eval,hs]
theorem Ai3 {s d:Nat} {e:Dat} {val:Value} (hc:Ctx P H S β a w o g) (hs:(g s).sv=.dat e) (hn:e.f.base≠.gone) (hv:qD a s=some val) (ho:o.dst=some d)
  (hr:(execOp a.eval o).run P w=.ok (.value val) w):yF P H S β a w o (g.ups [.put d (AM1 g (s,[]))]):=by
 obtain⟨c,hvr,hV⟩:=hc.rel.dat hs
 have hl:=zO hvr
 refine AO2 hc.rel hc.dead ho (xF hc.opIn ho) hr ?_
 rw[hv] at hV
 exact A0Y (hc.dead.root hs) hs rfl hn (by simp[inB]) (hv.trans hV) hl rfl (by simp[zD,hl]) (A4 hV)
theorem A7u {s d:Nat} {t:Ty} {y:t.D} {f:Fl} {val:Value} (hc:Ctx P H S β a w o g) (hs:(g s).sv=.dat ⟨.ptr t,y,.own f⟩) (hv:qD a s=some val) (ho:o.dst=some d)
  (hr:(execOp a.eval o).run P w=.ok (.value val) w):yF P H S β a w o (g.ups [.put d (.adr s [.der] 0 (g s).s)]):=by
 obtain⟨c,hvr,hV⟩:=hc.rel.dat hs
 refine AO2 hc.rel hc.dead ho (xF hc.opIn ho) hr (A1K (hc.dead.root hs) (Bj _) (Ai _) fun _ dr hdr=>?_)
 rw[hs] at hdr
 cases hdr
 have hvr':=hvr
 simp only[zN,Fl.base] at hvr'
 obtain⟨_,b,cs,rfl,_⟩:=hvr'
 rw[hv] at hV
 exact⟨_,t,b,0,hv.trans hV,zO hvr,by simp[vF,xJ,zD],hV,by simp[inB],fun h=>by simp[jG,jumps] at h⟩
theorem A2E {mv:Bool} {t:Option Ty} {x:Operand} (hc:Ctx P H S β a w o g) (hs:Sub gv g) (hm:o.op=.move x)
  (hk:A2T gv mv o t x some=some us):yF P H S β a w o (g.ups us):=by
 have hr:=A3H (P:=P) (w:=w) (a:=a) (.inl hm)
 unfold A2T at hk
 split at hk
 ·rename_i s hs1
  obtain⟨dd,ho,rfl⟩:=yG hk
  unfold AH1 at hs1
  split at hs1
  ·rename_i s'
   split at hs1
   ·rename_i hp
    cases hs1
    simp only[Ae] at hp
    obtain⟨t',ht'⟩:=Option.isSome_iff_exists.1 hp.2
    unfold Ak7 at ht'
    split at ht'
    ·rename_i t1 y f hx
     have hsub:g s=gv s:=hs.get hx (by simp)
     have hs':(g s).sv=.dat ⟨.ptr t1,y,.own f⟩:=by rw[hsub];exact hx
     rw[← hsub]
     exact A7u hc hs' (oK (hc.dead.root hs')) ho hr
    ·cases ht'
   ·cases hs1
  ·cases hs1
 rename_i hnn;clear hnn
 split at hk
 ·rename_i d hx
  have hx':=hs.sv hx (by simp)
  split at hk
  ·rename_i hf
   have hf:=wW hf
   rcases pP hc.rel hx' with ⟨s,rfl,hs'⟩| ⟨_,c,hcc,hrd⟩
   ·obtain⟨c,hv,hV⟩:=hc.rel.dat hs'
    rw[hf,yO] at hv
    exact DV.look ⟨hf,c,hv,zH (x:=.tmp s) hV⟩ hc.rel hc.dead hc.opIn hk hr
   ·exact DV.look ⟨hf,c,hrd,zH hcc⟩ hc.rel hc.dead hc.opIn hk hr
  ·split at hk
   ·cases hk
   ·rename_i hg
    split at hk
    ·rename_i s
     obtain⟨dd,ho,rfl⟩:=yG hk
     have hsub:g s=gv s:=hs.get hx (by simp)
     have hs':(g s).sv=.dat d:=by rw[hsub];exact hx
     have:=Ai3 hc hs' (uE (by simpa using hg)) (oK (hc.dead.root hs')) ho hr
     have e:AM1 gv (s,[])=AM1 g (s,[]):=by simp[AM1,hsub]
     rw[e];exact this
    ·cases hk
 ·rename_i r p c s hx
  obtain⟨dd,ho,rfl⟩:=yG hk
  obtain⟨i,rfl,hi⟩:=vZ (hs.sv hx (by simp)) (by simp) (by simp) (by simp)
  exact A3O hc hi (oK (hc.dead.lt (by rw[hi];simp))) ho hr
 ·rename_i r p c s hx
  obtain⟨dd,ho,rfl⟩:=yG hk
  obtain⟨i,rfl,hi⟩:=vZ (hs.sv hx (by simp)) (by simp) (by simp) (by simp)
  exact An7 hc hi (oK (hc.dead.lt (by rw[hi];simp))) ho hr
 ·rename_i f rs hx
  obtain⟨dd,ho,rfl⟩:=yG hk
  obtain⟨i,rfl,hi⟩:=vZ (hs.sv hx (by simp)) (by simp) (by simp) (by simp)
  have hss:=hc.rel.slots i
  rw[hi] at hss
  obtain⟨h1,h2⟩:=hss
  refine AO2 hc.rel hc.dead ho (xF hc.opIn ho) hr (A08 h1 ?_)
  rw[oK (hc.dead.lt (by rw[hi];simp))] at h2
  exact h2
 ·rename_i r p c s u d hx
  split at hk
  ·rename_i j e ho
   split at hk
   ·cases hk
   ·rename_i hje
    simp only[A2] at hje
    simp only[Aa] at hk;subst hk
    have hj:(g j).sv=.pend r p c s u d:=by
     have:=hs.sv hx (by simp)
     exact this
    have hjN:=hc.dead.lt (show (g j).sv≠.dead by rw[hj];simp)
    have hd:=xF hc.opIn ho
    have hss:=hc.rel.slots j
    rw[hj] at hss
    obtain⟨h0,h1,h2,h3,h4⟩:=hss
    intro K Q hK
    refine uH hr (hK _ _ S (rekey β [j] [e]) wG yN ?_ (.rekey _ _))
    rw[ho,vE hd]
    have hk1:Rel H a.tmps.size (g.up (.put j .dead)) (qD a) w S β:=hc.rel.kill fun _ _=>rfl
    refine hk1.finish (fun _ _=>rfl) (hc.dead.up hjN) (fun _ _=>rfl) hd (hc.rel.sane.rekey _ _) (fun b hb=>⟨hb,rfl⟩) (fun i s b hi ha hb=>⟨?_,rfl⟩) ?_
    ·have hij:i≠j:=fun e'=>by subst e';exact ha (by rw[vD])
     rw[xX (zZ hi) (zZ hij)];exact hb
    ·have hrj:∀ dr,(g r).sv=.dat dr→r≠j:=fun dr hdr e'=>by rw[e',hj] at hdr;cases hdr
     refine⟨h0,?_⟩
     by_cases hre:r=e
     ·subst hre
      rw[vD]
      have hh:(g.up (.put j .dead)) r=g r:=rF (fun e'=>hje e'.symm)
      rw[hh]
      refine⟨by simp;omega,by simp;omega,by simp;omega,fun ok=>?_⟩
      have:=(AQ7.1 ok).2
      rw[vD,hh] at this;simp at this;omega
     ·rw[rF hre]
      by_cases hrj':r=j
      ·subst hrj'
       rw[vD]
       refine⟨by simp;omega,by simp;omega,by simp;omega,fun ok=>?_⟩
       intro dr hdr
       rw[rF hre,vD] at hdr;simp at hdr
      ·have hh:(g.up (.put j .dead)) r=g r:=rF hrj'
       rw[hh]
       refine⟨h1,h2,h3,fun ok dr hdr=>?_⟩
       have hh2:((g.up (.put j .dead)).up (.put e (.pend r p c s u d))) r=g r:=by rw[rF hre,hh]
       rw[Sub.okU hh2] at ok
       rw[hh2] at hdr
       obtain⟨k1,β2,cc,k2,k3,k4⟩:=h4 ok dr hdr
       rw[oK hjN] at k4
       refine⟨k1,?_⟩
       have e4:(upd (qD a) e (a.eval (.tmp j))) e=some (zV d.t cc):=by simp only[upd,Au];exact k4
       have hother:∀ s b,β (r :: s)=some b→rekey β [j] [e] (r :: s)=some b:=fun s b hb=>by
        rw[xX (zZ hre) (zZ hrj')];exact hb
       rcases k2 with rfl|⟨b,hb,rfl⟩
       ·exact⟨_,cc,.inl rfl,zI (fun b hb=>⟨hb,rfl⟩) (fun s b hb=>⟨hother _ _ (by simpa using hb),rfl⟩) k3,e4⟩
       ·refine⟨_,cc,.inr ⟨b,?_,rfl⟩,zI (fun b hb=>⟨hb,rfl⟩) (fun s b2 hb2=>⟨?_,rfl⟩) k3,e4⟩
        ·have:=Ab8 (β:=β) (src:=[j]) (dst:=[e]) (s:=[])
         simp only[A9] at this
         rw[this];exact hb
        ·unfold repl at hb2 ⊢
         split at hb2
         ·rename_i e5;rw[Ar e5];exact hb2
         ·rename_i e5
          rw[Aq e5,Aq (by simp[hre])]
          split at hb2
          ·cases hb2
          ·exact hother _ _ (by simpa using hb2)
  ·cases hk
 ·rename_i hx
  split at hk
  ·rename_i τ
   obtain⟨dd,ho,rfl⟩:=yG hk
   have hxv:a.eval x=.slice none 0 0:=by
    rcases fZ (hs.sv hx (by simp)) with ⟨s,rfl,h⟩| rfl
    ·have:=hc.rel.slots s
     rw[h] at this;exact this.elim
    ·rfl
   rw[hxv] at hr
   refine AO2 hc.rel hc.dead ho (xF hc.opIn ho) hr ⟨[.slice none 0 0],?_,by simp[upd,zV,Ty.agg]⟩
   simp only[zN,Fl.base,pN,Fl.pins]
   exact⟨by simp,none,0,rfl,by simp,.inl rfl⟩
  ·cases hk
 ·rename_i d hx
  split at hk
  ·rename_i j e ho
   split at hk
   ·cases hk
   ·rename_i hje
    simp only[A2] at hje
    simp only[Aa] at hk;subst hk
    have hj:(g j).sv=.tup d:=hs.sv hx (by simp)
    have hjN:=hc.dead.lt (show (g j).sv≠.dead by rw[hj];simp)
    have hd:=xF hc.opIn ho
    have hss:=hc.rel.slots j
    rw[hj] at hss
    obtain⟨c,hv,hV⟩:=hss
    intro K Q hK
    refine uH hr (hK _ _ S (rekey β [j] [e]) wG yN ?_ (.rekey _ _))
    rw[ho,vE hd]
    have hk1:Rel H a.tmps.size (g.up (.put j .dead)) (qD a) w S β:=hc.rel.kill fun _ _=>rfl
    refine hk1.finish (fun _ _=>rfl) (hc.dead.up hjN) (fun _ _=>rfl) hd (hc.rel.sane.rekey _ _) (fun b hb=>⟨hb,rfl⟩) (fun i s b hi ha hb=>⟨?_,rfl⟩) ?_
    ·have hij:i≠j:=fun e'=>by subst e';exact ha (by rw[vD])
     rw[xX (zZ hi) (zZ hij)];exact hb
    ·refine⟨c,qH hv,?_⟩
     simp only[upd,Au]
     rw[oK hjN] at hV;exact hV
  ·cases hk
 ·cases hk
theorem A3v {x:Operand} (hc:Ctx P H S β a w o g) (hs:Sub gv g) (hm:o.op=.nilCheck x)
  (hk:BF9 gv o x some=some us):yF P H S β a w o (g.ups us):=by
 unfold BF9 at hk
 split at hk
 ·rename_i r p c s hx
  split at hk
  ·rename_i hok
   simp only[Ae] at hok
   obtain⟨dd,ho,rfl⟩:=yG hk
   obtain⟨i,rfl,hi⟩:=vZ (hs.sv hx (by simp)) (by simp) (by simp) (by simp)
   have hss:=hc.rel.slots i
   rw[hi] at hss
   obtain⟨h0,h1,h2,h3⟩:=hss
   obtain⟨hok,hdat⟩:=hok
   unfold A8J at hdat
   split at hdat
   ·rename_i dr hdr
    have hr:=hs.get hdr (by simp)
    obtain⟨cr,t,b,oo,k1,k2,k3,k4,_⟩:=h3 (by rw[Sub.okB hr];exact hok) dr (by rw[hr];exact hdr)
    exact An7 hc hi k4 ho (AZ8 hm (zH (x:=.tmp i) k4))
   ·cases hdat
  ·cases hk
 ·rename_i r p c s hx
  split at hk
  ·rename_i hok
   split at hk
   ·rename_i t y f hat
    obtain⟨dd,ho,rfl⟩:=yG hk
    obtain⟨i,rfl,hi⟩:=vZ (hs.sv hx (by simp)) (by simp) (by simp) (by simp)
    obtain⟨hat',hr⟩:=hs.atP hat
    obtain⟨e,he,hg⟩:=lX hat'
    obtain⟨_,_,hn,cr,L,c',_,_,_,_,_,k6,k7⟩:=hc.rel.als hi (by rw[Sub.okA hr];exact hok) he hg
    obtain⟨b,rfl⟩:=AJ4 hn k6
    exact A3O hc hi k7 ho (AZ8 hm (zH (x:=.tmp i) k7))
   ·cases hk
  ·cases hk
 ·rename_i t y f hx
  have hx':=hs.sv hx (by simp)
  split at hk
  ·rename_i hf
   have hf:=wW hf
   subst hf
   rcases pP hc.rel hx' with ⟨s,rfl,hs'⟩| ⟨_,c,hcc,hrd⟩
   ·obtain⟨c,hv,hV⟩:=hc.rel.dat hs'
    have hv0:=hv
    rw[yO] at hv
    obtain⟨b,rfl⟩:=AJ4 kA hv0
    exact DV.look (d:=⟨.ptr t,y,.sh⟩) ⟨rfl,_,hv,rfl⟩ hc.rel hc.dead hc.opIn hk (AZ8 hm (zH (x:=.tmp s) hV))
   ·obtain⟨b,rfl⟩:=AJ4 (H:=H) (β:=β) (k:=[]) kA (yO.2 hrd)
    exact DV.look (d:=⟨.ptr t,y,.sh⟩) ⟨rfl,_,hrd,rfl⟩ hc.rel hc.dead hc.opIn hk (AZ8 hm (zH hcc))
  ·split at hk
   ·cases hk
   ·rename_i hg
    split at hk
    ·rename_i s
     obtain⟨dd,ho,rfl⟩:=yG hk
     have hsub:g s=gv s:=hs.get hx (by simp)
     have hs':(g s).sv=.dat ⟨.ptr t,y,f⟩:=by rw[hsub];exact hx
     obtain⟨c,hv,hV⟩:=hc.rel.dat hs'
     obtain⟨b,rfl⟩:=AJ4 (uE (by simpa using hg)) hv
     have:=Ai3 hc hs' (uE (by simpa using hg)) hV ho (AZ8 hm (zH (x:=.tmp s) hV))
     have e:AM1 gv (s,[])=AM1 g (s,[]):=by simp[AM1,hsub]
     rw[e];exact this
    ·cases hk
 ·cases hk
end
end Go.Rf

end
