/- An interpreter of the code over plain data, proved right against the machine: part 1. No condition. -/
import GoSem.Step
import Derived.Calls
import Derived.Laws.Cells
import Derived.Laws.Strings
import Derived.Laws.Strings2
import Derived.Laws.Concat
import Derived.Laws.BytesString
import Derived.Laws.BytesArg
import Derived.Laws.StructEq
set_option linter.unusedVariables false
set_option linter.unusedSimpArgs false
section
namespace Go.Rf
inductive Ty where
 | int (k : IntKind)
 | bool
 | str
 | fn
 | unit
 | sl (t : Ty)
 | ptr (t : Ty)
 | arr (n : Nat) (t : Ty)
 | pair (a b : Ty)
 deriving DecidableEq, Inhabited
def Ty.size : Ty → Nat
 | .arr n t => n * t.size
 | .unit => 0
 | .pair a b => a.size + b.size
 | _ => 1
def Ty.agg : Ty → Bool
 | .arr _ _ => true
 | .unit => true
 | .pair _ _ => true
 | _ => false
mutual
inductive FnVal where
 | nil
 | mk (f : FuncId) (caps : FCaps)
inductive FCaps where
 | nil
 | int (k : IntKind) (n : Int) (r : FCaps)
 | fn (v : FnVal) (r : FCaps)
end
def Ty.D : Ty → Type
 | .int _ => Int
 | .bool => Bool
 | .str => List UInt8
 | .fn => FnVal
 | .unit => Unit
 | .sl t => List t.D
 | .ptr t => t.D
 | .arr _ t => List t.D
 | .pair a b => a.D × b.D
def Ty.dflt : (t : Ty) → t.D
 | .int _ => (0 : Int)
 | .bool => false
 | .str => ([] : List UInt8)
 | .fn => FnVal.nil
 | .unit => ()
 | .sl t => ([] : List t.D)
 | .ptr t => t.dflt
 | .arr n t => List.replicate n t.dflt
 | .pair a b => (a.dflt, b.dflt)
inductive Fl where
 | sh
 | gone
 | own (e : Fl)
 | pr (a b : Fl)
 | ar (e : Fl)
 | pin (k : Nat) (f : Fl)
 deriving DecidableEq, Inhabited
def Fl.mkpr : Fl → Fl → Fl
 | .sh, .sh => .sh
 | a, b => .pr a b
def Fl.mkar : Fl → Fl
 | .sh => .sh
 | e => .ar e
def Fl.mkpin (k : Nat) : Fl → Fl
 | .pin j f => .pin j f
 | f => .pin k f
def Fl.pins : Fl → List Nat
 | .pin k f => k :: f.pins
 | _ => []
def Fl.base : Fl → Fl
 | .pin _ f => f.base
 | f => f
def Fl.full : Ty → Fl
 | .sl t => .own (full t)
 | .arr _ t => .mkar (full t)
 | .pair a b => .mkpr (full a) (full b)
 | .ptr _ => .gone
 | _ => .sh
def Fl.half : Ty → Fl
 | .sl _ => .own .sh
 | .arr _ t => .mkar (half t)
 | .pair a b => .mkpr (half a) (half b)
 | .ptr _ => .gone
 | _ => .sh
def Fl.nw (deep : Bool) (t : Ty) : Fl := match deep with | true => .full t | false => .half t
def Fl.l : Fl → Fl
 | .sh => .sh
 | .pr a _ => a
 | .pin _ f => f.l
 | _ => .gone
def Fl.r : Fl → Fl
 | .sh => .sh
 | .pr _ b => b
 | .pin _ f => f.r
 | _ => .gone
def Fl.e : Fl → Fl
 | .sh => .sh
 | .own e => e
 | .pin _ f => f.e
 | _ => .gone
def Fl.a : Fl → Fl
 | .sh => .sh
 | .ar e => e
 | .pin _ f => f.a
 | _ => .gone
def Fl.whole : Fl → Bool
 | .sh => true
 | .gone => false
 | .own e => e.whole
 | .pr a b => a.whole && b.whole
 | .ar e => e.whole
 | .pin _ f => f.whole
def Fl.isGone (f : Fl) : Bool := match f.base with | .gone => true | _ => false
def Fl.ne (deep : Bool) (t : Ty) : Fl := match (Fl.nw deep t).whole with | true => .nw deep t | false => .sh
def Fl.free : Fl → Bool
 | .sh => true
 | _ => false
def Fl.low : Fl → Bool
 | .sh => true
 | .gone => true
 | .pr a b => a.low && b.low
 | .ar a => a.low
 | _ => false
def Fl.le (g f : Fl) : Bool :=
 match f with
 | .sh => g.low
 | .gone => match g with | .gone => true | _ => false
 | .own f => match g with | .gone => true | .sh => f.whole | .own e => le e f | _ => false
 | .pr c d => match g with | .gone => true | .sh => c.whole && d.whole | .pr a b => le a c && le b d | _ => false
 | .ar c => match g with | .gone => true | .sh => c.whole | .ar a => le a c | _ => false
 | .pin k f => match g with | .pin j e => Nat.beq j k && le e f | g => le g f
inductive PS where
 | der
 | fst
 | snd
 | idx (i : Nat)
 | elm (i : Nat)
def PS.jumps : PS → Bool
 | .der => true
 | .elm _ => true
 | _ => false
def PS.isElm : PS → Bool
 | .elm _ => true
 | _ => false
def jumps : List PS → Bool
 | [] => false
 | s :: p => s.jumps || jumps p
def hasElm : List PS → Bool
 | [] => false
 | s :: p => s.isElm || hasElm p
def boxed : List PS → Bool
 | .der :: p => !jumps p
 | _ => false
structure Dat where
 t : Ty
 x : t.D
 f : Fl
def castD (a b : Ty) (x : a.D) : Option b.D := if h : a = b then some (h ▸ x) else none
def getP : List PS → (t : Ty) → Fl → t.D → Option Dat
 | [], t, f, x => some ⟨t, x, f⟩
 | .fst :: p, .pair a _, f, x => getP p a f.l x.1
 | .snd :: p, .pair _ b, f, x => getP p b f.r x.2
 | .der :: p, .ptr t, f, x => getP p t f.e x
 | .idx i :: p, .arr _ t, f, x => getP p t f.a (List.getD x i t.dflt)
 | .elm i :: p, .sl t, f, x => getP p t f.e (List.getD x i t.dflt)
 | _, _, _, _ => none
def lenP (p : List PS) (t : Ty) (f : Fl) (x : t.D) : Option Nat :=
 match getP p t f x with
 | some ⟨.sl _, x, _⟩ => some (List.length x)
 | some ⟨.arr n _, _, _⟩ => some n
 | _ => none
def Fl.keep (p : List PS) : Fl → Fl → Fl
 | .pin k _, g => if jumps p then .mkpin k g else g
 | _, g => g
def modP : List PS → (t : Ty) → Fl → t.D → Dat → Option (Fl × t.D)
 | [], t, _, _, d => (castD d.t t d.x).map fun y => (d.f, y)
 | .fst :: p, .pair a b, f, x, d => (modP p a f.l x.1 d).map fun y => (Fl.keep p f (.mkpr y.1 f.r), ((y.2, x.2) : Ty.D (.pair a b)))
 | .snd :: p, .pair a b, f, x, d => (modP p b f.r x.2 d).map fun y => (Fl.keep p f (.mkpr f.l y.1), ((x.1, y.2) : Ty.D (.pair a b)))
 | .idx i :: p, .arr n t, f, x, d => (modP p t f.a (List.getD x i t.dflt) d).bind fun y => if f.a.whole && y.1 = f.a then some (Fl.keep p f (.mkar f.a), (List.set x i y.2 : Ty.D (.arr n t))) else none
 | .der :: p, .ptr t, .own e, x, d => (modP p t e x d).map fun y => (.own y.1, (y.2 : Ty.D (.ptr t)))
 | .der :: p, .ptr t, .pin k (.own e), x, d => (modP p t e x d).map fun y => (.pin k (.own y.1), (y.2 : Ty.D (.ptr t)))
 | .elm i :: p, .sl t, .own e, x, d => (modP p t e (List.getD x i t.dflt) d).bind fun y => if y.1 = e then some (.own e, (List.set x i y.2 : Ty.D (.sl t))) else none
 | .elm i :: p, .sl t, .pin k (.own e), x, d => (modP p t e (List.getD x i t.dflt) d).bind fun y => if y.1 = e then some (.pin k (.own e), (List.set x i y.2 : Ty.D (.sl t))) else none
 | _, _, _, _, _ => none
def Fl.wrap : Fl → Fl → Fl
 | .pin k _, g => .mkpin k g
 | _, g => g
def repP : List PS → (t : Ty) → Fl → t.D → Dat → Option (Fl × t.D)
 | [], t, _, _, d => (castD d.t t d.x).map fun y => (d.f, y)
 | .fst :: p, .pair a b, f, x, d => (repP p a f.l x.1 d).map fun y => (f.wrap (.mkpr y.1 f.r), ((y.2, x.2) : Ty.D (.pair a b)))
 | .snd :: p, .pair a b, f, x, d => (repP p b f.r x.2 d).map fun y => (f.wrap (.mkpr f.l y.1), ((x.1, y.2) : Ty.D (.pair a b)))
 | .idx i :: p, .arr n t, f, x, d => (repP p t f.a (List.getD x i t.dflt) d).bind fun y => if f.a.whole && y.1 = f.a then some (f.wrap (.mkar f.a), (List.set x i y.2 : Ty.D (.arr n t))) else none
 | .der :: p, .ptr t, .own e, x, d => (repP p t e x d).map fun y => (.own y.1, (y.2 : Ty.D (.ptr t)))
 | .der :: p, .ptr t, .pin k (.own e), x, d => (repP p t e x d).map fun y => (.pin k (.own y.1), (y.2 : Ty.D (.ptr t)))
 | .elm i :: p, .sl t, .own e, x, d => (repP p t e (List.getD x i t.dflt) d).bind fun y => if y.1 = e then some (.own e, (List.set x i y.2 : Ty.D (.sl t))) else none
 | .elm i :: p, .sl t, .pin k (.own e), x, d => (repP p t e (List.getD x i t.dflt) d).bind fun y => if y.1 = e then some (.pin k (.own e), (List.set x i y.2 : Ty.D (.sl t))) else none
 | _, _, _, _, _ => none
def derF (f g : Fl) : Fl := match f.base with | .sh => .sh | _ => .own g
def setF : List PS → Fl → Fl → Fl
 | [], _, g => g
 | .fst :: p, f, g => f.wrap (.mkpr (setF p f.l g) f.r)
 | .snd :: p, f, g => f.wrap (.mkpr f.l (setF p f.r g))
 | .idx _ :: p, f, g => f.wrap (.mkar (setF p f.a g))
 | .der :: p, f, g => f.wrap (derF f (setF p f.e g))
 | .elm _ :: p, f, g => f.wrap (derF f (setF p f.e g))
inductive SV where
 | dead
 | dat (d : Dat)
 | tup (d : Dat)
 | adr (r : Nat) (p : List PS) (c s : Nat)
 | als (r : Nat) (p : List PS) (c s : Nat)
 | pend (r : Nat) (p : List PS) (c s u : Nat) (d : Dat)
 | clo (g : FuncId) (rs : List (Nat × Nat))
 | nils
 | und
 | unk
structure Slot where
 sv : SV
 c : Nat
 s : Nat
 u : Nat
def Slot.dead : Slot := ⟨.dead, 0, 0, 0⟩
end Go.Rf

end
section
namespace Go.Rf
def Ty.beq (a b : Ty) : Bool := decide (a = b)
def chain (ty : TypeId → Option Ty) : List Field → Nat → Option Ty
 | [], _ => some .unit
 | f :: fs, off =>
  match ty f.type with
  | some a => if Nat.beq f.offset off then (chain ty fs (off + a.size)).map (.pair a) else none
  | none => none
def zval : Ty → Value → Bool
 | .int k, .int j n => decide (k = j) && decide (n = 0)
 | .bool, .bool b => !b
 | .str, .string s => s.data.toList.isEmpty
 | .fn, .nilFunc => true
 | .sl _, .slice none 0 0 => true
 | .ptr _, _ => true
 | _, _ => false
def zcells : Ty → List Value → Bool
 | .unit, c => c.isEmpty
 | .pair a b, c => zcells a (c.take a.size) && zcells b (c.drop a.size)
 | .arr n t, c => zarr t.size (zcells t) n c
 | t, [v] => zval t v
 | _, _ => false
where
 zarr (k : Nat) (z : List Value → Bool) : Nat → List Value → Bool
  | 0, c => c.isEmpty
  | n + 1, c => z (c.take k) && zarr k z n (c.drop k)
def tyN (P : Program) : Nat → TypeId → Option Ty
 | 0, _ => none
 | d + 1, t =>
  match P.info? t, P.underlying t with
  | some i, some u =>
   let τ : Option Ty := match u with
    | .int k => some (.int k)
    | .bool => some .bool
    | .string => some .str
    | .func _ _ _ => some .fn
    | .slice e => (tyN P d e).map .sl
    | .pointer e => (tyN P d e).map .ptr
    | .array n e => (tyN P d e).map (.arr n)
    | .struct fs => chain (tyN P d) fs.toList 0
    | _ => none
   match τ with
   | some τ => if Nat.beq i.size τ.size then some τ else none
   | none => none
  | _, _ => none
inductive Mode where
 | ro (t : Ty)
 | mv (t : Ty) (f : Fl)
 | io (t : Ty) (fin fout : Fl) (slot : Nat) (path : List PS)
structure FCfg where
 modes : List Mode
 nres : Nat
 rt : Ty
 rf : Fl
 keep : List Nat
 mv : List (Nat × Nat)
structure Env where
 P : Program
 cfg : FuncId → FCfg
def Env.ty (E : Env) (t : TypeId) : Option Ty := tyN E.P 8 t
def Env.zok (E : Env) (t : TypeId) (τ : Ty) : Bool :=
 match E.P.info? t with
 | some i => match i.zero with
  | some v => zcells τ v.cells.toList
  | none => false
 | none => false
def Env.small (E : Env) (t : TypeId) : Bool :=
 match E.P.info? t with
 | some i => Nat.ble i.bytes 128
 | none => false
def Env.tz (E : Env) (t : TypeId) : Option Ty :=
 match E.ty t with
 | some τ => if E.zok t τ then some τ else none
 | none => none
def Env.sl (E : Env) (t : TypeId) : Option Ty :=
 match E.ty t, E.P.underlying t with
 | some (.sl τ), some (.slice e) => if E.zok e τ && E.small e then some (.sl τ) else none
 | _, _ => none
structure Dyn where
 t : Ty
 x : t.D
inductive Up where
 | put (s : Nat) (v : SV)
 | mod (s : Nat) (v : SV)
 | pub (s : Nat) (v : SV)
def Up.slot : Up → Nat
 | .put s _ => s
 | .mod s _ => s
 | .pub s _ => s
def Up.on : Up → Slot → Slot
 | .put _ v, ⟨_, c, s, u⟩ => ⟨v, c + 1, s + 1, u + 1⟩
 | .mod _ v, ⟨_, c, s, u⟩ => ⟨v, c + 1, s, u + 1⟩
 | .pub _ v, ⟨_, c, s, u⟩ => ⟨v, c, s, u + 1⟩
abbrev View := Nat → Slot
def View.up (g : View) (u : Up) : View := fun i => if Nat.beq i u.slot then u.on (g i) else g i
def View.ups (g : View) : List Up → View
 | [] => g
 | u :: us => (g.up u).ups us
def okA (g : View) (r c s : Nat) : Bool := Nat.beq (g r).c c && Nat.beq (g r).s s
def okU (g : View) (r c s u : Nat) : Bool := okA g r c s && Nat.beq (g r).u u
def okB (g : View) (r : Nat) (p : List PS) (c s : Nat) : Bool := Nat.beq (g r).s s && (boxed p || Nat.beq (g r).c c)
def sv (g : View) : Operand → SV
 | .tmp s => (g s).sv
 | .const (.int k n) => .dat ⟨.int k, n, .sh⟩
 | .const (.bool b) => .dat ⟨.bool, b, .sh⟩
 | .const (.string s) => .dat ⟨.str, s.data.toList, .sh⟩
 | .const (.slice none 0 0) => .nils
 | .const .nilFunc => .dat ⟨.fn, .nil, .sh⟩
 | .func f => .dat ⟨.fn, .mk f .nil, .sh⟩
 | _ => .dead
abbrev Pl := Nat × List PS
def atP (g : View) (r : Nat) (p : List PS) : Option Dat :=
 match (g r).sv with
 | .dat d => getP p d.t d.f d.x
 | _ => none
def capsOf (g : View) : List (Nat × Nat) → Option FCaps
 | [] => some .nil
 | (r, s) :: rs =>
  match (g r).sv with
  | .dat ⟨.ptr (.int k), n, f⟩ => if Nat.beq (g r).s s && f.whole then (capsOf g rs).map (.int k n) else none
  | .dat ⟨.ptr .fn, v, f⟩ => if Nat.beq (g r).s s && f.whole then (capsOf g rs).map (.fn v) else none
  | _ => none
def dataOf (g : View) : SV → Option Dat
 | .dat d => if d.f.whole then some d else none
 | .als r p c s => if okA g r c s then (match atP g r p with | some d => if d.f.whole then some d else none | none => none) else none
 | .pend r _ c s u d => if okU g r c s u && d.f.whole then (match (g r).sv with | .dat _ => some d | _ => none) else none
 | .clo h rs => (capsOf g rs).map fun cs => ⟨.fn, .mk h cs, .sh⟩
 | _ => none
def placeOf (g : View) (x : Operand) : SV → Option Pl
 | .dat _ => match x with | .tmp s => some (s, []) | _ => none
 | .als r p c s => if okA g r c s then some (r, p) else none
 | _ => none
def target (g : View) (x : Operand) : SV → Option Pl
 | .adr r p c s => if okB g r p c s then some (r, p) else none
 | .dat ⟨.ptr _, _, f⟩ => if f.isGone then none else match x with | .tmp s => some (s, [.der]) | _ => none
 | .als r p c s => if okA g r c s then (match atP g r p with | some ⟨.ptr _, _, f⟩ => if f.e.isGone then none else some (r, p ++ [.der]) | _ => none) else none
 | _ => none
def take (g : View) (mv : Bool) (t : Option Ty) (x : Operand) : SV → Option (Dat × List Up)
 | .nils => match t with | some (.sl t) => some (⟨.sl t, ([] : List t.D), .own (.ne mv t)⟩, []) | _ => none
 | .dat d => if d.f.free then some (d, []) else if d.f.whole then (match x with | .tmp s => some (d, [.put s .dead]) | _ => none) else none
 | .als r p c s =>
  if okA g r c s then
   match (g r).sv with
   | .dat e =>
    match getP p e.t e.f e.x with
    | some d =>
     if d.f.free then some (d, [])
     else if d.f.whole then
      if mv && !hasElm p then some (d, [.mod r (.dat ⟨e.t, e.x, setF p e.f .gone⟩)])
      else some (⟨d.t, d.x, .sh⟩, [.pub r (.dat ⟨e.t, e.x, setF p e.f .sh⟩)])
     else none
    | none => none
   | _ => none
  else none
 | .pend r p c s u d =>
  match x with
  | .tmp j => if okU g r c s u && !hasElm p && d.f.whole && !Nat.beq j r then (match (g r).sv with | .dat e => some (d, [.mod r (.dat ⟨e.t, e.x, setF p e.f .gone⟩), .put j .dead]) | _ => none) else none
  | _ => none
 | .clo h [] => some (⟨.fn, .mk h .nil, .sh⟩, [])
 | _ => none
def PS.eqc : PS → PS → Option (List Bool)
 | .der, .der => some []
 | .fst, .fst => some []
 | .snd, .snd => some []
 | .idx i, .idx j => some [decide (i = j)]
 | .elm i, .elm j => some [decide (i = j)]
 | _, _ => none
def pathEq : List PS → List PS → Option (List Bool)
 | [], [] => some []
 | a :: p, b :: q => match PS.eqc a b, pathEq p q with | some l, some m => some (l ++ m) | _, _ => none
 | _, _ => none
def conds {ρ : Type} : List Bool → Option ρ → Option ρ
 | [], k => k
 | b :: l, k => cond b (conds l k) none
end Go.Rf

end
section
namespace Go.Rf
variable {ρ : Type}
def lenOK (n : Nat) : Bool := Nat.ble n 1099511627776
def bitI (op : BinOp) (k : IntKind) (a b : Int) : Int :=
 match op with
 | .and => k.wrap (BitVec.ofInt k.bits a &&& BitVec.ofInt k.bits b).toNat
 | .or => k.wrap (BitVec.ofInt k.bits a ||| BitVec.ofInt k.bits b).toNat
 | .xor => k.wrap (BitVec.ofInt k.bits a ^^^ BitVec.ofInt k.bits b).toNat
 | _ => k.wrap (BitVec.ofInt k.bits a &&& ~~~(BitVec.ofInt k.bits b)).toNat
def eqI (a b : Int) : Bool := decide (a = b)
def eqB (a b : Bool) : Bool := decide (a = b)
def eqS (a b : List UInt8) : Bool := decide (a = b)
def negI (k : IntKind) (a : Int) : Int := k.wrap (0 - a)
def leI (a b : Int) : Bool := decide (a ≤ b)
def nonneg (i : Int) : Bool := decide (0 ≤ i)
def minI (a b : Int) : Int := cond (decide (b < a)) b a
def intK (op : BinOp) (k : IntKind) (a : Int) (k' : IntKind) (b : Int) (κ : Dat → Option ρ) : Option ρ :=
 match op with
 | .shl => cond (decide (b < 0)) none (κ ⟨.int k, k.wrap (a * 2 ^ min b.toNat k.bits), .sh⟩)
 | .shr => cond (decide (b < 0)) none (κ ⟨.int k, a.fdiv (2 ^ min b.toNat k.bits), .sh⟩)
 | op => if k = k' then
   match op with
   | .add => κ ⟨.int k, k.wrap (a + b), .sh⟩
   | .sub => κ ⟨.int k, k.wrap (a - b), .sh⟩
   | .mul => κ ⟨.int k, k.wrap (a * b), .sh⟩
   | .quo => cond (eqI b 0) none (κ ⟨.int k, k.wrap (a.tdiv b), .sh⟩)
   | .rem => cond (eqI b 0) none (κ ⟨.int k, a.tmod b, .sh⟩)
   | .and => κ ⟨.int k, bitI .and k a b, .sh⟩
   | .or => κ ⟨.int k, bitI .or k a b, .sh⟩
   | .xor => κ ⟨.int k, bitI .xor k a b, .sh⟩
   | .andNot => κ ⟨.int k, bitI .andNot k a b, .sh⟩
   | .eql => κ ⟨.bool, eqI a b, .sh⟩
   | .neq => κ ⟨.bool, !eqI a b, .sh⟩
   | .lss => κ ⟨.bool, decide (a < b), .sh⟩
   | .leq => κ ⟨.bool, decide (a ≤ b), .sh⟩
   | .gtr => κ ⟨.bool, decide (b < a), .sh⟩
   | .geq => κ ⟨.bool, decide (b ≤ a), .sh⟩
   | _ => none
  else none
def strK (op : BinOp) (a b : List UInt8) (κ : Dat → Option ρ) : Option ρ :=
 match op with
 | .add => cond (lenOK (a.length + b.length)) (κ ⟨.str, (a ++ b : List UInt8), .sh⟩) none
 | .eql => κ ⟨.bool, eqS a b, .sh⟩
 | .neq => κ ⟨.bool, !eqS a b, .sh⟩
 | _ => none
def binK (op : BinOp) (t : Option Ty) (x y : SV) (κ : Dat → Option ρ) : Option ρ :=
 match x, y with
 | .dat ⟨.int k, a, .sh⟩, .dat ⟨.int k', b, .sh⟩ => intK op k a k' b κ
 | .dat ⟨.str, a, .sh⟩, .dat ⟨.str, b, .sh⟩ => strK op a b κ
 | .dat ⟨.bool, a, .sh⟩, .dat ⟨.bool, b, .sh⟩ => if t = some .bool then (match op with | .eql => κ ⟨.bool, eqB a b, .sh⟩ | .neq => κ ⟨.bool, !eqB a b, .sh⟩ | _ => none) else none
 | _, _ => none
def eqD : (t : Ty) → t.D → t.D → Bool
 | .int _, x, y => eqI x y
 | .bool, x, y => eqB x y
 | .str, x, y => eqS x y
 | .pair a b, x, y => eqD a x.1 y.1 && eqD b x.2 y.2
 | _, _, _ => true
def eqOK (P : Program) : Nat → TypeId → Bool
 | 0, _ => false
 | d + 1, t => match P.underlying t with
  | some (.int _) => true
  | some .bool => true
  | some .string => true
  | some (.struct fs) => !P.stoodInHeld t && fs.toList.all fun f => f.name != "_" && eqOK P d f.type
  | _ => false
def binX (E : Env) (op : BinOp) (t : TypeId) (x y : SV) (κ : Dat → Option ρ) : Option ρ :=
 match x, y with
 | .dat ⟨.pair a b, p, .sh⟩, .dat ⟨.pair a' b', q, .sh⟩ =>
  match castD (.pair a' b') (.pair a b) q with
  | some q => if E.ty t = some (.pair a b) ∧ eqOK E.P 8 t = true ∧ E.P.eqGuardType E.P.depth t = false then
    (match op with | .eql => κ ⟨.bool, eqD (.pair a b) p q, .sh⟩ | .neq => κ ⟨.bool, !eqD (.pair a b) p q, .sh⟩ | _ => none) else none
  | none => none
 | x, y => binK op (E.ty t) x y κ
def unK (op : UnOp) (x : SV) (κ : Dat → Option ρ) : Option ρ :=
 match op, x with
 | .neg, .dat ⟨.int k, a, .sh⟩ => κ ⟨.int k, negI k a, .sh⟩
 | .xor, .dat ⟨.int k, a, .sh⟩ => κ ⟨.int k, bitI .xor k (if k.signed then -1 else k.max) a, .sh⟩
 | .not, .dat ⟨.bool, a, .sh⟩ => κ ⟨.bool, !a, .sh⟩
 | _, _ => none
def convK (src dst : Option Ty) (d : Option Dat) (κ : Dat → Option ρ) : Option ρ :=
 match src, dst, d with
 | some (.int _), some (.int k), some ⟨.int _, n, _⟩ => κ ⟨.int k, k.wrap n, .sh⟩
 | some .str, some .str, some ⟨.str, s, _⟩ => κ ⟨.str, s, .sh⟩
 | some (.sl (.int .u8)), some .str, some ⟨.sl (.int .u8), s, f⟩ => if f.whole then κ ⟨.str, List.map (fun n : Int => UInt8.ofNat n.toNat) s, .sh⟩ else none
 | some .str, some (.sl (.int .u8)), some ⟨.str, s, _⟩ => κ ⟨.sl (.int .u8), List.map (fun b : UInt8 => (b.toNat : Int)) s, .own .sh⟩
 | _, _, _ => none
def fieldPath : Nat → List PS
 | 0 => [.fst]
 | n + 1 => .snd :: fieldPath n
def typeAt (g : View) (q : Pl) : Option Ty := (atP g q.1 q.2).map (·.t)
def isPairs : Ty → Bool
 | .pair _ _ => true
 | _ => false
def addr (g : View) (q : Pl) : SV := .adr q.1 q.2 (g q.1).c (g q.1).s
def alias (g : View) (q : Pl) : SV := .als q.1 q.2 (g q.1).c (g q.1).s
def outp (o : Oper) (us : List Up) (v : SV) (κ : List Up → Option ρ) : Option ρ :=
 match o.dst with
 | some d => κ (us ++ [.put d v])
 | none => none
def isDat : SV → Bool
 | .dat _ => true
 | _ => false
def ptrOwn : SV → Option Ty
 | .dat ⟨.ptr t, _, .own _⟩ => some t
 | .dat ⟨.ptr t, _, .pin _ (.own _)⟩ => some t
 | _ => none
def softS (g : View) (mv : Bool) (x : Operand) : Option Nat :=
 match x with
 | .tmp s => if mv && (ptrOwn (g s).sv).isSome then some s else none
 | _ => none
def moveK (g : View) (mv : Bool) (o : Oper) (t : Option Ty) (x : Operand) (κ : List Up → Option ρ) : Option ρ :=
 match softS g mv x with
 | some s => outp o [] (.adr s [.der] 0 (g s).s) κ
 | none =>
 match sv g x with
 | .dat d => if d.f.free then outp o [] (.dat d) κ else if d.f.isGone then none else match x with | .tmp s => outp o [] (alias g (s, [])) κ | _ => none
 | .als r p c s => outp o [] (.als r p c s) κ
 | .adr r p c s => outp o [] (.adr r p c s) κ
 | .clo h rs => outp o [] (.clo h rs) κ
 | .pend r p c s u d => match x, o.dst with | .tmp j, some e => if Nat.beq j e then none else κ [.put j .dead, .put e (.pend r p c s u d)] | _, _ => none
 | .nils => match t with | some (.sl t) => outp o [] (.dat ⟨.sl t, ([] : List t.D), .own (.ne mv t)⟩) κ | _ => none
 | .tup d => match x, o.dst with | .tmp j, some e => if Nat.beq j e then none else κ [.put j .dead, .put e (.tup d)] | _, _ => none
 | _ => none
def nilK (g : View) (o : Oper) (x : Operand) (κ : List Up → Option ρ) : Option ρ :=
 match sv g x with
 | .adr r p c s => if okB g r p c s && isDat (g r).sv then outp o [] (.adr r p c s) κ else none
 | .als r p c s => if okA g r c s then (match atP g r p with | some ⟨.ptr _, _, _⟩ => outp o [] (.als r p c s) κ | _ => none) else none
 | .dat ⟨.ptr t, y, f⟩ => if f.free then outp o [] (.dat ⟨.ptr t, y, f⟩) κ else if f.isGone then none else match x with | .tmp s => outp o [] (alias g (s, [])) κ | _ => none
 | _ => none
def isNilP : Operand → Bool
 | .const (.pointer none) => true
 | _ => false
def assignK (g : View) (mv : Bool) (o : Oper) (t : Option Ty) (x : Operand) (κ : List Up → Option ρ) : Option ρ :=
 if isNilP x then outp o [] .dead κ else
 match sv g x with
 | .adr r p c s => outp o [] (.adr r p c s) κ
 | .clo h rs => outp o [] (.clo h rs) κ
 | .pend r p c s u d =>
  match x, o.dst with
  | .tmp j, some e => if Nat.beq r e && p.isEmpty && okU g r c s u && isDat (g r).sv && !Nat.beq j e then κ [.put j .dead, .put e (.dat d)] else
    match take g mv t x (.pend r p c s u d) with
    | some (d, us) => κ (us ++ [.put e (.dat d)])
    | none => none
  | _, _ => none
 | v => match take g mv t x v with
  | some (d, us) => outp o us (.dat d) κ
  | none => none
def loadK (g : View) (o : Oper) (t : Option Ty) (x : Operand) (κ : List Up → Option ρ) : Option ρ :=
 match target g x (sv g x) with
 | some q =>
  match atP g q.1 q.2 with
  | some d => if t = some d.t && !d.f.isGone then (if d.f.free then outp o [] (.dat d) κ else outp o [] (alias g q) κ) else none
  | none => none
 | none => none
def putAt (g : View) (q : Pl) (d : Dat) : Option Up :=
 match (g q.1).sv with
 | .dat r =>
  match modP q.2 r.t r.f r.x d with
  | some y => some (.mod q.1 (.dat ⟨r.t, y.2, y.1⟩))
  | none => if d.f.whole then (modP q.2 r.t r.f r.x ⟨d.t, d.x, .sh⟩).map fun y => .mod q.1 (.dat ⟨r.t, y.2, y.1⟩) else none
 | _ => none
def storeK (g : View) (mv : Bool) (o : Oper) (t : Option Ty) (x y : Operand) (κ : List Up → Option ρ) : Option ρ :=
 match o.dst, target g x (sv g x) with
 | none, some q =>
  if typeAt g q = t && t.isSome then
   match y, sv g y with
   | .tmp j, .pend r p c s u d =>
    match (if Nat.beq r q.1 && okU g r c s u && d.f.whole && !Nat.beq j q.1 then pathEq p q.2 else none) with
    | some cs => match putAt g q d with
     | some u => conds cs (κ [.put j .dead, u])
     | none => none
    | none => match take g mv t y (.pend r p c s u d) with
     | some (d, us) => match putAt (g.ups us) q d with
      | some u => κ (us ++ [u])
      | none => none
     | none => none
   | y, v => match take g mv t y v with
    | some (d, us) => match putAt (g.ups us) q d with
     | some u => κ (us ++ [u])
     | none => none
    | none => none
  else none
 | _, _ => none
def fieldAddrK (g : View) (o : Oper) (t : Option Ty) (x : Operand) (i : Nat) (κ : List Up → Option ρ) : Option ρ :=
 match target g x (sv g x) with
 | some q => if typeAt g q = t then
   match atP g q.1 (q.2 ++ fieldPath i) with
   | some d => if (boxed q.2 || !d.f.isGone) && !Nat.beq d.t.size 0 then outp o [] (addr g (q.1, q.2 ++ fieldPath i)) κ else none
   | none => none else none
 | none => none
def indexAddrK (g : View) (o : Oper) (t : Option Ty) (x i : Operand) (κ : List Up → Option ρ) : Option ρ :=
 match t, sv g i with
 | some (.sl τ), .dat ⟨.int _, i, .sh⟩ =>
  match placeOf g x (sv g x) with
  | some q =>
   match atP g q.1 q.2 with
   | some ⟨.sl τ', xs, f⟩ => if τ' = τ && f.e.whole && !f.isGone then
     cond (nonneg i) (cond (Nat.blt i.toNat (List.length xs)) (outp o [] (addr g (q.1, q.2 ++ [.elm i.toNat])) κ) none) none else none
   | _ => none
  | none => none
 | some (.arr n τ), .dat ⟨.int _, i, .sh⟩ =>
  match target g x (sv g x) with
  | some q =>
   match atP g q.1 q.2 with
   | some ⟨.arr n' τ', _, f⟩ => if n' = n && τ' = τ && (boxed q.2 || !f.a.isGone) then cond (nonneg i) (cond (Nat.blt i.toNat n) (outp o [] (addr g (q.1, q.2 ++ [.idx i.toNat])) κ) none) none else none
   | _ => none
  | none => none
 | _, _ => none
def indexK (g : View) (o : Oper) (t : Option Ty) (x i : Operand) (κ : List Up → Option ρ) : Option ρ :=
 match t, sv g x, sv g i with
 | some .str, .dat ⟨.str, s, .sh⟩, .dat ⟨.int _, i, .sh⟩ =>
  cond (nonneg i) (cond (Nat.blt i.toNat (List.length s)) (outp o [] (.dat ⟨.int .u8, (UInt8.toNat (List.getD s i.toNat 0) : Int), .sh⟩) κ) none) none
 | some (.arr n τ), .dat ⟨.arr m τ', xs, .sh⟩, .dat ⟨.int _, i, .sh⟩ =>
  if n = m && τ' = τ then cond (nonneg i) (cond (Nat.blt i.toNat n) (outp o [] (.dat ⟨τ', List.getD xs i.toNat τ'.dflt, .sh⟩) κ) none) none else none
 | _, _, _ => none
def buildD (mv : Bool) : (t : Ty) → (i : Nat) → (Nat → Option Dat) → Option (t.D × Fl)
 | .unit, _, _ => some ((), .sh)
 | .pair a b, i, h =>
  match buildD mv b (i + 1) h with
  | some (y, g) => match h i with
   | some d => (castD d.t a d.x).map fun x => ((x, y), .mkpr d.f g)
   | none => some ((a.dflt, y), .mkpr (.nw mv a) g)
  | none => none
 | _, _, _ => none
def listD (t : Ty) (h : Nat → Option Dat) : Nat → Nat → Option (List t.D)
 | _, 0 => some []
 | i, n + 1 =>
  match listD t h (i + 1) n with
  | some l => match h i with
   | some d => (castD d.t t d.x).map (· :: l)
   | none => some (t.dflt :: l)
  | none => none
def takeParts (g : View) (mv : Bool) (ts : Nat → Option Ty) : List (Nat × Operand) → Option (List (Nat × Dat) × List Up)
 | [] => some ([], [])
 | (i, x) :: l =>
  match take g mv (ts i) x (sv g x) with
  | some (d, us) => (takeParts (g.ups us) mv ts l).map fun r => ((i, d) :: r.1, us ++ r.2)
  | none => none
def partAt (l : List (Nat × Dat)) (i : Nat) : Option Dat := (l.find? fun x => Nat.beq x.1 i).map (·.2)
def nodups : List Nat → Bool
 | [] => true
 | a :: l => !l.any (Nat.beq a ·) && nodups l
def fieldTy : Ty → Nat → Option Ty
 | .pair a _, 0 => some a
 | .pair _ b, i + 1 => fieldTy b i
 | _, _ => none
def meetFl (mv : Bool) (n : Nat) (t : Ty) (l : List (Nat × Dat)) : Option Fl :=
 match l with
 | [(_, d)] => if Nat.beq n 1 then some d.f else if d.f = .nw mv t then some d.f else if Fl.le .sh d.f && Fl.le .sh (.nw mv t) then some .sh else none
 | l => if l.all (fun x => decide (x.2.f = .nw mv t)) then some (.nw mv t) else if Fl.le .sh (.nw mv t) && l.all (fun x => Fl.le .sh x.2.f) then some .sh else none
def buildK (E : Env) (g : View) (mv : Bool) (o : Oper) (t : TypeId) (ps : Array (Nat × Operand)) (κ : List Up → Option ρ) : Option ρ :=
 match E.tz t with
 | some (.arr n τ) =>
  match takeParts g mv (fun _ => some τ) ps.toList with
  | some (l, us) => if nodups (l.map (·.1)) && l.all (fun x => Nat.blt x.1 n) then
    match listD τ (partAt l) 0 n, meetFl mv n τ l with
    | some xs, some f => outp o us (.dat ⟨.arr n τ, (xs : List τ.D), .mkar f⟩) κ
    | _, _ => none else none
  | none => none
 | some τ =>
  match takeParts g mv (fieldTy τ) ps.toList with
  | some (l, us) => if nodups (l.map (·.1)) && l.all (fun x => (fieldTy τ x.1).isSome) then
    match buildD mv τ 0 (partAt l) with
    | some (x, f) => outp o us (.dat ⟨τ, x, f⟩) κ
    | none => none else none
  | none => none
 | none => none
def buildSliceK (E : Env) (g : View) (mv : Bool) (o : Oper) (t : TypeId) (n : Nat) (ps : Array (Nat × Operand)) (κ : List Up → Option ρ) : Option ρ :=
 match E.sl t with
 | some (.sl τ) =>
  match takeParts g mv (fun _ => some τ) ps.toList with
  | some (l, us) => if nodups (l.map (·.1)) && l.all (fun x => Nat.blt x.1 n) && Nat.ble (n * τ.size) 16777216 then
    match listD τ (partAt l) 0 n, meetFl mv n τ l with
    | some xs, some f => outp o us (.dat ⟨.sl τ, (xs : List τ.D), .own f⟩) κ
    | _, _ => none else none
  | none => none
 | _ => none
def boundK (x : Option SV) (d : Nat) (κ : Nat → Option ρ) : Option ρ :=
 match x with
 | none => κ d
 | some (.dat ⟨.int _, i, .sh⟩) => cond (nonneg i) (κ i.toNat) none
 | _ => none
def publish (g : View) (x : Operand) (v : SV) : Option (List Up) :=
 match v with
 | .dat d => if d.f.free then some [] else if d.f.whole then (match x with | .tmp s => some [.pub s (.dat ⟨d.t, d.x, .sh⟩)] | _ => none) else none
 | .als r p c s => if okA g r c s then
   match (g r).sv with
   | .dat e => match getP p e.t e.f e.x with
    | some d => if d.f.free then some [] else if d.f.whole then some [.pub r (.dat ⟨e.t, e.x, setF p e.f .sh⟩)] else none
    | none => none
   | _ => none else none
 | .clo _ [] => some []
 | _ => none
def sliceK (g : View) (o : Oper) (t : Option Ty) (x : Operand) (lo hi : Option Operand) (κ : List Up → Option ρ) : Option ρ :=
 match t, dataOf g (sv g x) with
 | some .str, some ⟨.str, s, _⟩ =>
  boundK (hi.map (sv g)) (List.length s) fun h => boundK (lo.map (sv g)) 0 fun l =>
   cond (Nat.ble h (List.length s)) (cond (Nat.ble l h) (outp o [] (.dat ⟨.str, List.drop l (List.take h s), .sh⟩) κ) none) none
 | some (.sl τ), some ⟨.sl τ', s, _⟩ =>
  if τ = τ' then
   match publish g x (sv g x) with
   | some us => boundK (hi.map (sv g)) (List.length s) fun h => boundK (lo.map (sv g)) 0 fun l =>
     cond (Nat.ble h (List.length s)) (cond (Nat.ble l h) (outp o us (.dat ⟨.sl τ', List.drop l (List.take h s), .sh⟩) κ) none) none
   | none => none
  else none
 | _, _ => none
def makeSliceK (E : Env) (g : View) (mv : Bool) (o : Oper) (t : TypeId) (len cap : Operand) (κ : List Up → Option ρ) : Option ρ :=
 match E.sl t, sv g len, sv g cap with
 | some (.sl τ), .dat ⟨.int .i64, n, .sh⟩, .dat ⟨.int .i64, m, .sh⟩ =>
  cond (nonneg n) (cond (leI n m) (cond (lenOK m.toNat) (outp o [] (.dat ⟨.sl τ, List.replicate n.toNat τ.dflt, .own (.nw mv τ)⟩) κ) none) none) none
 | _, _, _ => none
def addsOf (g : View) (τ : Ty) (t : Option Ty) (x : Operand) : Option (List τ.D × List Up) :=
 match t with
 | some (.int .i64) =>
  match sv g x with
  | .dat ⟨.int .i64, n, .sh⟩ => if (Fl.half τ).whole then cond (nonneg n && lenOK n.toNat) (some (List.replicate n.toNat τ.dflt, [])) none else none
  | _ => none
 | some (.sl τ') =>
  match sv g x with
  | .nils => if τ' = τ then some ([], []) else none
  | v => match dataOf g v with
   | some ⟨.sl τ'', ys, _⟩ => (castD (.sl τ'') (.sl τ) ys).bind fun ys => (publish g x v).map fun us => (ys, us)
   | _ => none
 | some .str =>
  match sv g x with
  | .dat ⟨.str, s, .sh⟩ => (castD (.sl (.int .u8)) (.sl τ) (List.map (fun b : UInt8 => (b.toNat : Int)) s)).map fun ys => (ys, [])
  | _ => none
 | _ => none
def addsC (g : View) (t : Option Ty) (x : Operand) : Bool :=
 match t with
 | some (.int .i64) =>
  match sv g x with
  | .dat ⟨.int .i64, n, .sh⟩ => nonneg n
  | _ => true
 | _ => true
def addsD (g : View) (t : Option Ty) (x : Operand) : Bool :=
 match t with
 | some (.int .i64) =>
  match sv g x with
  | .dat ⟨.int .i64, n, .sh⟩ => lenOK n.toNat
  | _ => true
 | _ => true
def addsU (g : View) (τ : Ty) (t : Option Ty) (x : Operand) : Option (List τ.D × List Up) :=
 match t with
 | some (.int .i64) =>
  match sv g x with
  | .dat ⟨.int .i64, n, .sh⟩ => if (Fl.half τ).whole then some (List.replicate n.toNat τ.dflt, []) else none
  | _ => none
 | t => addsOf g τ t x
theorem addsOf_of {g : View} {τ : Ty} {t : Option Ty} {x : Operand} {r : List τ.D × List Up} (hc : addsC g t x = true) (hd : addsD g t x = true) (hu : addsU g τ t x = some r) : addsOf g τ t x = some r := by
 unfold addsC at hc
 unfold addsD at hd
 unfold addsU at hu
 split at hu
 ·unfold addsOf
  simp only at hc hd ⊢
  split at hu
  ·rename_i n hn
   rw [hn] at hc hd
   split at hu
   ·rename_i hw
    rw [if_pos hw]
    have hc : (nonneg n && lenOK n.toNat) = true := by rw [show nonneg n = true from hc, show lenOK n.toNat = true from hd]; rfl
    exact (congrArg (fun b => cond b (some (List.replicate (Int.toNat n) τ.dflt, ([] : List Up))) none) hc).trans hu
   ·cases hu
  ·cases hu
 ·exact hu
def appFirst (g : View) (τ : Ty) (x : Operand) : Option (List τ.D × List Up × Option (Nat × List PS × Nat × Nat × Nat)) :=
 match sv g x with
 | .nils => some ([], [], none)
 | .pend r p c s u d => match take g true none x (.pend r p c s u d) with
  | some (⟨.sl τ', xs, .own .sh⟩, vs) => (castD (.sl τ') (.sl τ) xs).map fun xs => (xs, vs, none)
  | _ => none
 | v => match placeOf g x v with
  | some q => match atP g q.1 q.2 with
   | some ⟨.sl τ', xs, .own .sh⟩ => (castD (.sl τ') (.sl τ) xs).map fun xs => (xs, [.pub q.1 (g q.1).sv], some (q.1, q.2, (g q.1).c, (g q.1).s, (g q.1).u + 1))
   | _ => none
  | none => none
def appDeepQ (g : View) (τ : Ty) (t' : Option Ty) (x y : Operand) : Option ((List τ.D × List τ.D) × Fl × List Up) :=
 match t' with
 | some (.sl _) =>
  match takeParts g true (fun _ => none) [(0, x), (1, y)] with
  | some ([(_, ⟨.sl τ1, xs, .own e⟩), (_, ⟨.sl τ2, ys, .own e'⟩)], us) =>
   if e = e' && !decide (e = .sh) then (castD (.sl τ1) (.sl τ) xs).bind fun xs => (castD (.sl τ2) (.sl τ) ys).map fun ys => ((xs, ys), e, us) else none
  | _ => none
 | _ => none
def appendK (g : View) (o : Oper) (t t' : Option Ty) (x y : Operand) (κ : List Up → Option ρ) : Option ρ :=
  match t with
  | some (.sl τ) =>
    match appDeepQ g τ t' x y with
    | some ((xs, ys), e, us) => cond (lenOK (xs.length + ys.length)) (outp o us (.dat ⟨.sl τ, (xs ++ ys : List τ.D), .own e⟩) κ) none
    | none =>
    cond (addsC g t' y) (cond (addsD g t' y)
     (match addsU g τ t' y with
    | some (ys, us) =>
      match appFirst (g.ups us) τ x with
      | some (xs, vs, q) =>
        cond (lenOK (xs.length + ys.length))
          (match q with
            | some (r, p, c, s, u) => outp o (us ++ vs) (.pend r p c s u ⟨.sl τ, (xs ++ ys : List τ.D), .own .sh⟩) κ
            | none => outp o (us ++ vs) (.dat ⟨.sl τ, (xs ++ ys : List τ.D), .own .sh⟩) κ) none
      | none => none
    | none => none) none) none
  | _ => none
def lenK (g : View) (o : Oper) (t : Option Ty) (x : Operand) (κ : List Up → Option ρ) : Option ρ :=
 match t, dataOf g (sv g x) with
 | some .str, some ⟨.str, s, _⟩ => outp o [] (.dat ⟨.int .i64, (List.length s : Int), .sh⟩) κ
 | some (.sl _), some ⟨.sl _, s, _⟩ => outp o [] (.dat ⟨.int .i64, (List.length s : Int), .sh⟩) κ
 | some (.arr n _), _ => outp o [] (.dat ⟨.int .i64, (n : Int), .sh⟩) κ
 | some (.ptr (.arr n _)), _ => outp o [] (.dat ⟨.int .i64, (n : Int), .sh⟩) κ
 | _, _ => match t, sv g x with
  | some (.sl _), .nils => outp o [] (.dat ⟨.int .i64, (0 : Int), .sh⟩) κ
  | _, _ => none
def minK (g : View) (o : Oper) (xs : List Operand) (κ : List Up → Option ρ) : Option ρ :=
 match xs with
 | [x, y] => match sv g x, sv g y with
  | .dat ⟨.int k, a, .sh⟩, .dat ⟨.int k', b, .sh⟩ => if k = k' then outp o [] (.dat ⟨.int k, minI a b, .sh⟩) κ else none
  | _, _ => none
 | _ => none
def extractK (g : View) (o : Oper) (x : Operand) (i : Nat) (κ : List Up → Option ρ) : Option ρ :=
 match x with
 | .tmp s =>
  match (g s).sv with
  | .tup d =>
   match getP (fieldPath i) d.t d.f d.x with
   | some e => if e.f.free then outp o [] (.dat e) κ else if e.f.whole then outp o [.put s (.tup ⟨d.t, d.x, setF (fieldPath i) d.f .gone⟩)] (.dat e) κ else none
   | none => none
  | _ => none
 | _ => none
def freeSV : SV → Option Dat
 | .dat d => if d.f.free then some d else none
 | _ => none
def pickK (g : View) (o : Oper) (c x y : Operand) (κ : List Up → Option ρ) : Option ρ :=
 match sv g c with
 | .dat ⟨.bool, t, .sh⟩ =>
  cond t (match freeSV (sv g x) with | some d => outp o [] (.dat d) κ | none => none) (match freeSV (sv g y) with | some d => outp o [] (.dat d) κ | none => none)
 | _ => none
def cloSlots (g : View) : List Operand → Option (List (Nat × Nat))
 | [] => some []
 | .tmp s :: l => match (g s).sv with
  | .dat ⟨.ptr _, _, _⟩ => (cloSlots g l).map ((s, (g s).s) :: ·)
  | _ => none
 | _ :: _ => none
def allocK (E : Env) (mv : Bool) (o : Oper) (t : TypeId) (κ : List Up → Option ρ) : Option ρ :=
 match E.tz t with
 | some τ => outp o [] (.dat ⟨.ptr τ, τ.dflt, .own (.nw mv τ)⟩) κ
 | none => none
def boxK (E : Env) (g : View) (mv : Bool) (o : Oper) (t : TypeId) (x : Operand) (κ : List Up → Option ρ) : Option ρ :=
 match E.ty t, take g mv (E.ty t) x (sv g x) with
 | some τ, some (d, us) => if d.t = τ then outp o us (.dat ⟨.ptr d.t, d.x, .own d.f⟩) κ else none
 | _, _ => none
def Fl.nopin : Fl → Bool
 | .sh => true
 | .gone => true
 | .own e => e.nopin
 | .pr a b => a.nopin && b.nopin
 | .ar e => e.nopin
 | .pin _ _ => false
def lentOf (g : View) (x : Operand) (v : SV) : List Nat :=
 match v with
 | .dat d => if d.f.free then [] else (match x with | .tmp s => [s] | _ => [])
 | .als r p _ _ => match atP g r p with | some d => if d.f.free then [] else [r] | none => []
 | .pend r _ _ _ _ _ => (match x with | .tmp s => [s] | _ => []) ++ [r]
 | .clo _ rs => rs.map (·.1)
 | _ => []
def ioPl (g : View) (x : Operand) : SV → Option Pl
 | .dat _ => match x with | .tmp r => some (r, []) | _ => none
 | .als r p c s => if okA g r c s then some (r, p) else none
 | .adr r p c s => if okB g r p c s then (match p.reverse with | .der :: q => some (r, q.reverse) | _ => none) else none
 | _ => none
structure Io where
 r : Nat
 p : List PS
 e : Dat
def kills : List Io → List Up
 | [] => []
 | o :: os => .put o.r .dead :: kills os
structure Prep where
 g : View
 ups : List Up
 hands : List (Option Dyn)
 ios : List Io
def prepOf (share : Bool) (m : Mode) (x : Operand) (g : View) : Option (Option Dyn × List Up × List Io) :=
 match m with
 | .ro _ =>
  if share then
   match sv g x with
   | .nils => some (none, [], [])
   | v => match dataOf g v with
    | some _ => (publish g x v).map fun us => (none, us, [])
    | none => none
  else some (none, [], [])
 | .mv t f =>
  match take g true (some t) x (sv g x) with
  | some (d, us) => if d.t = t && Fl.le f d.f && f.nopin then some (some ⟨d.t, d.x⟩, us, []) else none
  | none => none
 | .io t f fo _ _ =>
  match ioPl g x (sv g x) with
  | some q =>
   match (g q.1).sv with
   | .dat e =>
    match getP q.2 e.t e.f e.x with
    | some d => if d.t = t && d.f.base = f && f.nopin && fo.nopin && !f.isGone then some (some ⟨d.t, d.x⟩, [.put q.1 .dead], [⟨q.1, q.2, e⟩]) else none
    | none => none
   | _ => none
  | none => none
def prepAll (share : Bool) : List Mode → List Operand → View → Option Prep
 | [], [], g => some ⟨g, [], [], []⟩
 | m :: ms, x :: xs, g =>
  match prepOf share m x g with
  | some (h, us, rs) => (prepAll share ms xs (g.ups us)).map fun p => ⟨p.g, us ++ p.ups, h :: p.hands, rs ++ p.ios⟩
  | none => none
 | _, _, _ => none
def datsOf (g : View) : List Mode → List Operand → List (Option Dyn) → Option (List Dyn × List Nat)
 | [], [], [] => some ([], [])
 | .ro t :: ms, x :: xs, none :: hs =>
  match sv g x with
  | .nils => match t with | .sl t => (datsOf g ms xs hs).map fun r => (⟨.sl t, ([] : List t.D)⟩ :: r.1, r.2) | _ => none
  | v =>
   match dataOf g v with
   | some d => if d.t = t then (datsOf g ms xs hs).map fun r => (⟨d.t, d.x⟩ :: r.1, lentOf g x v ++ r.2) else none
   | none => none
 | _ :: ms, _ :: xs, some d :: hs => (datsOf g ms xs hs).map fun r => (d :: r.1, r.2)
 | _, _, _ => none
def closed : Ty → Fl → Bool
 | .int _, _ => true
 | .bool, _ => true
 | .str, _ => true
 | .unit, _ => true
 | .fn, _ => false
 | .sl t, .own e => closed t e
 | .sl _, _ => false
 | .ptr t, .own e => closed t e
 | .ptr _, _ => false
 | .arr _ t, f => closed t f.a
 | .pair a b, f => closed a f.l && closed b f.r
def closedIo : List Mode → Bool
 | [] => true
 | .io t _ fo _ _ :: ms => closed t fo && closedIo ms
 | _ :: ms => closedIo ms
def cutTy : Nat → Ty → Ty
 | 0, _ => .unit
 | n + 1, .pair a b => .pair a (cutTy n b)
 | _, t => t
def cutD : (n : Nat) → (t : Ty) → t.D → (cutTy n t).D
 | 0, _, _ => ()
 | n + 1, .pair _ b, x => (x.1, cutD n b x.2)
 | _ + 1, .int _, x => x
 | _ + 1, .bool, x => x
 | _ + 1, .str, x => x
 | _ + 1, .fn, x => x
 | _ + 1, .unit, x => x
 | _ + 1, .sl _, x => x
 | _ + 1, .ptr _, x => x
 | _ + 1, .arr _ _, x => x
def cutFl : Nat → Fl → Fl
 | 0, _ => .sh
 | n + 1, f => .mkpr f.l (cutFl n f.r)
def backs : List Mode → List Io → (t : Ty) → t.D → Option (List Up)
 | [], [], _, _ => some []
 | .io t _ fo _ _ :: ms, o :: os, .pair a b, x =>
  match getP o.p o.e.t o.e.f o.e.x with
  | some d =>
   match repP o.p o.e.t o.e.f o.e.x ⟨a, x.1, d.f.wrap fo⟩ with
   | some y => if a = t then (backs ms os b x.2).map (.put o.r (.dat ⟨o.e.t, y.2, y.1⟩) :: ·) else none
   | none => none
  | none => none
 | .ro _ :: ms, os, t, x => backs ms os t x
 | .mv _ _ :: ms, os, t, x => backs ms os t x
 | _, _, _, _ => none
def tailTy : Nat → Ty → Ty
 | 0, t => t
 | n + 1, .pair _ b => tailTy n b
 | _, t => t
def tailD : (n : Nat) → (t : Ty) → t.D → (tailTy n t).D
 | 0, _, x => x
 | n + 1, .pair _ b, x => tailD n b x.2
 | _ + 1, .int _, x => x
 | _ + 1, .bool, x => x
 | _ + 1, .str, x => x
 | _ + 1, .fn, x => x
 | _ + 1, .unit, x => x
 | _ + 1, .sl _, x => x
 | _ + 1, .ptr _, x => x
 | _ + 1, .arr _ _, x => x
abbrev Run (E : Env) := (f : FuncId) → List Dyn → Option (E.cfg f).rt.D
def resSV (n : Nat) (t : Ty) (x : t.D) (f : Fl) : Option SV :=
 match n, t, x, f with
 | 1, .pair a .unit, x, f => some (.dat ⟨a, x.1, f.l⟩)
 | _, t, x, f => some (.tup ⟨t, x, f⟩)
def shares (c : FCfg) : Bool := !(closed (cutTy c.nres c.rt) (cutFl c.nres c.rf) && closedIo c.modes)
def callK0 (E : Env) (R : Run E) (g : View) (o : Oper) (f : FuncId) (xs : List Operand) (κ : List Up → Option ρ) : Option ρ :=
 match prepAll (shares (E.cfg f)) (E.cfg f).modes xs g with
 | some p =>
  match datsOf p.g (E.cfg f).modes xs p.hands with
  | some (ds, lent) =>
   if (!shares (E.cfg f) || lent.isEmpty) && (E.cfg f).rf.nopin && nodups (p.ios.map Io.r) then
    (R f ds).bind fun x =>
     match resSV (E.cfg f).nres (cutTy (E.cfg f).nres (E.cfg f).rt) (cutD (E.cfg f).nres (E.cfg f).rt x) (cutFl (E.cfg f).nres (E.cfg f).rf), backs (E.cfg f).modes p.ios (tailTy (E.cfg f).nres (E.cfg f).rt) (tailD (E.cfg f).nres (E.cfg f).rt x) with
     | some v, some us => match o.dst with
      | some d => if p.ios.any (Nat.beq d ·.r) then none else κ (p.ups ++ (kills p.ios ++ (.put d v :: us)))
      | none => κ (p.ups ++ (kills p.ios ++ us))
     | _, _ => none
   else none
  | none => none
 | none => none
def Up.v : Up → SV
 | .put _ v => v
 | .mod _ v => v
 | .pub _ v => v
def SV.refs : SV → Bool
 | .adr _ _ _ _ => true
 | .als _ _ _ _ => true
 | .pend _ _ _ _ _ _ => true
 | .clo _ _ => true
 | _ => false
def stays (g : View) (us : List Up) (r : Nat) : Bool :=
 match (g r).sv, ((g.ups us) r).sv with
 | .dat a, .dat b => decide (a.t = b.t)
 | _, _ => false
def isPut (d : Nat) : Up → Bool
 | .put r _ => Nat.beq d r
 | _ => false
def hits : Option Nat → Nat → Bool
 | some d, r => Nat.beq d r
 | none, _ => false
def putsIn : Option Nat → List Up → Bool
 | some d, us => us.any (isPut d)
 | none, _ => true
def Up.soften (d : Option Nat) (g : View) (us : List Up) : Up → Up
 | .put r v => if !hits d r && stays g us r then .mod r v else .put r v
 | u => u
def softs (d : Option Nat) (g : View) (us : List Up) : List Up :=
 if us.all (fun u => !u.v.refs) && putsIn d us then us.map (Up.soften d g us) else us
def callK (E : Env) (R : Run E) (g : View) (o : Oper) (f : FuncId) (xs : List Operand) (κ : List Up → Option ρ) : Option ρ :=
 callK0 E R g o f xs fun us => κ (softs o.dst g us)
def capDyns : FCaps → List Dyn
 | .nil => []
 | .int k n r => ⟨.ptr (.int k), n⟩ :: capDyns r
 | .fn v r => ⟨.ptr .fn, v⟩ :: capDyns r
def rosOK : List Mode → List Dyn → Bool
 | [], [] => true
 | .ro t :: ms, d :: ds => decide (d.t = t) && rosOK ms ds
 | _, _ => false
def callV (E : Env) (R : Run E) (v : FnVal) (args : List Dyn) (τ : Ty) : Option τ.D :=
 match v with
 | .nil => none
 | .mk f cs =>
  if h : (E.cfg f).rt = .pair τ .unit then
   if Nat.beq (E.cfg f).nres 1 && rosOK (E.cfg f).modes (args ++ capDyns cs) && (E.cfg f).rf.l.whole then (R f (args ++ capDyns cs)).map fun x => ((cast (congrArg Ty.D h) x : (Ty.pair τ .unit).D)).1 else none
  else none
def roArgs (g : View) : List (Option Ty) → List Operand → Option (List Dyn)
 | some t :: ts, x :: xs =>
  match dataOf g (sv g x) with
  | some d => if d.t = t && d.f.whole then (roArgs g ts xs).map (⟨d.t, d.x⟩ :: ·) else none
  | none => none
 | [], [] => some []
 | _, _ => none
def callVK (E : Env) (R : Run E) (g : View) (o : Oper) (v : FnVal) (xs : List Operand) (ts : List TypeId) (κ : List Up → Option ρ) : Option ρ :=
 match roArgs g (ts.map E.ty) xs, E.ty o.type with
 | some ds, some τ => if closed τ .sh then (callV E R v ds τ).bind fun x => outp o [] (.dat ⟨τ, x, .sh⟩) κ else none
 | _, _ => none
def isNilC : Operand → Bool
 | .const (.slice none 0 0) => true
 | _ => false
def nilQ (g : View) (o : Oper) (op : BinOp) (t : Option Ty) (x : Operand) (κ : List Up → Option ρ) : Option ρ :=
 match op, t, dataOf g (sv g x) with
 | .eql, some (.sl _), some ⟨.sl _, s, _⟩ => cond (Nat.beq (List.length s) 0) (outp o [] .unk κ) (outp o [] (.dat ⟨.bool, false, .sh⟩) κ)
 | .neq, some (.sl _), some ⟨.sl _, s, _⟩ => cond (Nat.beq (List.length s) 0) (outp o [] .unk κ) (outp o [] (.dat ⟨.bool, true, .sh⟩) κ)
 | _, _, _ => none
def scal : Ty → Bool
 | .int _ => true
 | .bool => true
 | .str => true
 | .unit => true
 | .arr _ t => scal t
 | .pair a b => scal a && scal b
 | _ => false
def fieldK (g : View) (o : Oper) (t : Option Ty) (x : Operand) (i : Nat) (κ : List Up → Option ρ) : Option ρ :=
 match sv g x with
 | .dat ⟨.pair a b, y, .sh⟩ =>
  if t = some (.pair a b) then
   match getP (fieldPath i) (.pair a b) .sh y with
   | some e => if e.f.free then outp o [] (.dat e) κ else none
   | none => none
  else none
 | _ => none
def overL (τ : Ty) (ys xs : List τ.D) : List τ.D := ys ++ List.drop ys.length xs
def copyK (g : View) (o : Oper) (t : Option Ty) (x y : Operand) (κ : List Up → Option ρ) : Option ρ :=
 match t, placeOf g x (sv g x), dataOf g (sv g y) with
 | some (.sl τ), some q, some ⟨.sl τ2, ys, _⟩ =>
  match (g q.1).sv with
  | .dat e =>
   match getP q.2 e.t e.f e.x with
   | some ⟨.sl τ', xs, .own .sh⟩ =>
    match (castD (.sl τ') (.sl τ) xs : Option (List τ.D)), (castD (.sl τ2) (.sl τ) ys : Option (List τ.D)) with
    | some xs, some ys =>
     match repP q.2 e.t e.f e.x ⟨.sl τ, overL τ ys xs, .own .sh⟩ with
     | some z => if scal τ then cond (Nat.ble (List.length ys) (List.length xs)) (match o.dst with
       | some d => if Nat.beq d q.1 then none else κ [.mod q.1 (.dat ⟨e.t, z.2, z.1⟩), .put d (.dat ⟨.int .i64, (List.length ys : Int), .sh⟩)]
       | none => κ [.mod q.1 (.dat ⟨e.t, z.2, z.1⟩)]) none else none
     | none => none
    | _, _ => none
   | _ => none
  | _ => none
 | _, _, _ => none
def builtinK (E : Env) (g : View) (o : Oper) (b : Builtin) (c : Call) (κ : List Up → Option ρ) : Option ρ :=
 match b, c.args.toList, c.argTypes.toList with
 | .len, [x], [t] => lenK g o (E.ty t) x κ
 | .append, [x, y], [t, t'] => appendK g o (E.sl t) (E.ty t') x y κ
 | .min, xs, _ => minK g o xs κ
 | .copy, [x, y], [t, _] => copyK g o (E.sl t) x y κ
 | _, _, _ => none
def opK (E : Env) (R : Run E) (mv : Bool) (g : View) (o : Oper) (κ : List Up → Option ρ) : Option ρ :=
 match o.op with
 | .move x => moveK g mv o (E.ty o.type) x κ
 | .assign x => assignK g mv o (E.ty o.type) x κ
 | .pick c x y => pickK g o c x y κ
 | .alloc t => allocK E mv o t κ
 | .box t x => boxK E g mv o t x κ
 | .build t ps => buildK E g mv o t ps κ
 | .buildSlice t n ps => buildSliceK E g mv o t n ps κ
 | .load t x => loadK g o (E.ty t) x κ
 | .store t x y => storeK g mv o (E.ty t) x y κ
 | .nilCheck x => nilK g o x κ
 | .binOp op t x y _ => if isNilC y then nilQ g o op (E.ty t) x κ else binX E op t (sv g x) (sv g y) fun d => outp o [] (.dat d) κ
 | .unOp op _ x => unK op (sv g x) fun d => outp o [] (.dat d) κ
 | .convert s t x => convK (E.ty s) (E.ty t) (dataOf g (sv g x)) fun d => outp o [] (.dat d) κ
 | .makeFunc (.func h) first caps => if first.toList.isEmpty then match cloSlots g caps.toList with | some rs => outp o [] (.clo h rs) κ | none => none else none
 | .makeSlice t l c => makeSliceK E g mv o t l c κ
 | .slice t x lo hi none => sliceK g o (E.ty t) x lo hi κ
 | .fieldAddr t x i => fieldAddrK g o (E.ty t) x i κ
 | .indexAddr t x i => indexAddrK g o (E.ty t) x i κ
 | .index t x i => indexK g o (E.ty t) x i κ
 | .extract x i => extractK g o x i κ
 | .field t x i => fieldK g o (E.ty t) x i κ
 | .call c =>
  match c.callee with
  | .builtin b => builtinK E g o b c κ
  | .value (.func f) => callK E R g o f c.args.toList κ
  | .value (.tmp s) =>
   match dataOf g (g s).sv with
   | some ⟨.fn, v, _⟩ => callVK E R g o v c.args.toList c.argTypes.toList κ
   | _ => none
  | _ => none
 | _ => none
end Go.Rf

end
section
namespace Go.Rf
variable {ρ : Type}
structure Rec where
 fp : List Nat
 wr : List Nat
 sf : List Nat
 bad : List Nat
 ts : List Nat
 tw : List Nat
def tmpsOf : List Operand → List Nat
 | [] => []
 | .tmp s :: l => s :: tmpsOf l
 | _ :: l => tmpsOf l
def at? (l : List Slot) (i : Nat) : Slot := l.getD i .dead
def rootsOf (l : List Slot) : List Nat → List Nat
 | [] => []
 | s :: ss =>
  match (at? l s).sv with
  | .adr r _ _ _ => r :: rootsOf l ss
  | .als r _ _ _ => r :: rootsOf l ss
  | .pend r _ _ _ _ _ => r :: rootsOf l ss
  | .clo _ rs => rs.map (·.1) ++ rootsOf l ss
  | _ => rootsOf l ss
def fpOf (o : Oper) (l : List Slot) : List Nat :=
 let ts := tmpsOf o.op.operands.toList
 ts ++ rootsOf l ts
def viewOf (l : List Slot) (fp : List Nat) : View := fun i => if fp.any (Nat.beq i ·) then at? l i else .dead
def upL (l : List Slot) (u : Up) : List Slot := l.set u.slot (u.on (at? l u.slot))
def upsL (l : List Slot) : List Up → List Slot
 | [] => l
 | u :: us => upsL (upL l u) us
def binsOf (ops : List Oper) : List Nat := (Region.before ops.toArray).toList
def meets (a b : List Nat) : Bool := a.any fun x => b.any (Nat.beq x ·)
def apart (b : List Nat) : List Rec → Nat → Bool
 | [], _ => true
 | r :: rs, i => go b r i rs (i + 1) && apart b rs (i + 1)
where
 go (b : List Nat) (r : Rec) (i : Nat) : List Rec → Nat → Bool
  | [], _ => true
  | q :: qs, j => (Nat.testBit (b.getD j 0) i || (!meets r.wr q.fp && !meets r.wr q.wr && !meets q.wr r.fp && !meets r.tw q.ts && !meets q.tw r.ts)) && go b r i qs (j + 1)
def edgesOK : List Oper → Nat → Bool
 | [], _ => true
 | o :: os, i => o.after.toList.all (fun e => !Region.binds .any e || Nat.blt e.on i) && edgesOK os (i + 1)
def endsSoft (l : List Slot) (us : List Up) (x : Nat) : Bool :=
 !us.any (isPut x) && (match ptrOwn (at? l x).sv, ptrOwn (at? (upsL l us) x).sv with | some a, some b => decide (a = b) | _, _ => false)
def badUps (l : List Slot) (us : List Up) : List Nat := (us.map Up.slot).filter fun x => !endsSoft l us x
def softOf (mv : Bool) (l : List Slot) (o : Oper) : List Nat :=
 match o.op with
 | .move x => (match softS (at? l) mv x with | some s => [s] | none => [])
 | _ => []
def noBad (rs : List Rec) : Bool := !meets (rs.flatMap (·.sf)) (rs.flatMap (·.bad))
def exAt (o : Oper) (x : Nat) : Bool :=
 match o.op, o.dst with
 | .extract (.tmp s) _, some d => Nat.beq x s && !Nat.beq x d
 | _, _ => false
def exFree (l : List Slot) (o : Oper) : List Nat :=
 match o.op with
 | .extract (.tmp s) i =>
  match (at? l s).sv with
  | .tup d =>
   match getP (fieldPath i) d.t d.f d.x with
   | some e => if e.f.free then [s] else []
   | none => []
  | _ => []
 | _ => []
def twOf (o : Oper) (us : List Up) : List Nat := (us.map Up.slot).filter fun x => !exAt o x
def recOf (mv : Bool) (gs : List Nat) (l : List Slot) (o : Oper) (us : List Up) : Rec :=
 match softOf mv l o with
 | [] =>
  match exFree l o with
  | [] => ⟨gs ++ fpOf o l, us.map Up.slot, [], badUps l us, [], twOf o us⟩
  | x => ⟨gs, us.map Up.slot, [], badUps l us, x, twOf o us⟩
 | s => ⟨gs, us.map Up.slot, s, badUps l us, [], twOf o us⟩
def setSV (l : List Slot) (i : Nat) (v : SV) : List Slot := l.set i ⟨v, (at? l i).c, (at? l i).s, (at? l i).u⟩
def opsK (E : Env) (R : Run E) (mv : List Nat) (all : List Oper) (draw : Bool) : List Oper → Nat → List Slot → List Rec → (List Slot → Option ρ) → Option ρ
 | [], _, l, acc, κ => if draw then (if (apart (binsOf all) acc 0 && noBad acc) && edgesOK all 0 then κ l else none) else κ l
 | o :: os, i, l, acc, κ =>
  let go (gs : List Nat) (l : List Slot) : Option ρ :=
   opK E R (mv.any (Nat.beq i ·)) (viewOf l (fpOf o l)) o fun us =>
    opsK E R mv all draw os (i + 1) (upsL l us) (acc ++ [recOf (mv.any (Nat.beq i ·)) gs l o us]) κ
  let skip (gs : List Nat) (l : List Slot) : Option ρ :=
   match o.dst with
   | some d => opsK E R mv all draw os (i + 1) (upL l (.put d .und)) (acc ++ [⟨gs, [d], [], [d], [], [d]⟩]) κ
   | none => opsK E R mv all draw os (i + 1) l (acc ++ [⟨gs, [], [], [], [], []⟩]) κ
  match o.guard with
  | none => go [] l
  | some (j, want) =>
   match (all[j]?).bind Oper.dst with
   | none => none
   | some g =>
    match (at? l g).sv with
    | .dat ⟨.bool, t, .sh⟩ =>
     cond t (if want then go [g] (setSV l g (.dat ⟨.bool, true, .sh⟩)) else skip [g] (setSV l g (.dat ⟨.bool, true, .sh⟩)))
      (if want then skip [g] (setSV l g (.dat ⟨.bool, false, .sh⟩)) else go [g] (setSV l g (.dat ⟨.bool, false, .sh⟩)))
    | .und => skip [g] l
    | _ => none
def forceSV {α : Type} (v : SV) (κ : SV → α) : α :=
 match v with
 | .dat ⟨t, x, f⟩ => κ (.dat ⟨t, x, f⟩)
 | .tup ⟨t, x, f⟩ => κ (.tup ⟨t, x, f⟩)
 | .adr r p c s => κ (.adr r p c s)
 | .als r p c s => κ (.als r p c s)
 | .pend r p c s u ⟨t, x, f⟩ => κ (.pend r p c s u ⟨t, x, f⟩)
 | .clo g rs => κ (.clo g rs)
 | .dead => κ .dead
 | .nils => κ .nils
 | .und => κ .und
 | .unk => κ .unk
def forceL {α : Type} : List Slot → (List Slot → α) → α
 | [], κ => κ []
 | ⟨v, c, s, u⟩ :: l, κ => forceSV v fun v => forceL l fun l => κ (⟨v, c, s, u⟩ :: l)
def forceN {α : Type} : List Nat → (List Nat → α) → α
 | [], κ => κ []
 | n :: l, κ => forceN l fun l => κ (n :: l)
theorem forceSV_eq {α : Type} (v : SV) (κ : SV → α) : forceSV v κ = κ v := by cases v <;> rfl
theorem forceL_eq {α : Type} : ∀ (l : List Slot) (κ : List Slot → α), forceL l κ = κ l
 | [], _ => rfl
 | ⟨v, c, s, u⟩ :: l, κ => by simp only [forceL, forceSV_eq, forceL_eq l]
theorem forceN_eq {α : Type} : ∀ (l : List Nat) (κ : List Nat → α), forceN l κ = κ l
 | [], _ => rfl
 | n :: l, κ => by simp only [forceN, forceN_eq l]
def opsS (E : Env) (R : Run E) (mv : List Nat) (all : List Oper) (draw : Bool) : List Oper → Nat → List Slot → List Rec → (List Slot → Option ρ) → Option ρ
 | [], _, l, acc, κ => if draw then (if (apart (binsOf all) acc 0 && noBad acc) && edgesOK all 0 then κ l else none) else κ l
 | o :: os, i, l, acc, κ => forceL l fun l =>
  let go (gs : List Nat) (l : List Slot) : Option ρ :=
   forceN (fpOf o l) fun fp => opK E R (mv.any (Nat.beq i ·)) (viewOf l fp) o fun us =>
    opsS E R mv all draw os (i + 1) (upsL l us) (acc ++ [recOf (mv.any (Nat.beq i ·)) gs l o us]) κ
  let skip (gs : List Nat) (l : List Slot) : Option ρ :=
   match o.dst with
   | some d => opsS E R mv all draw os (i + 1) (upL l (.put d .und)) (acc ++ [⟨gs, [d], [], [d], [], [d]⟩]) κ
   | none => opsS E R mv all draw os (i + 1) l (acc ++ [⟨gs, [], [], [], [], []⟩]) κ
  match o.guard with
  | none => go [] l
  | some (j, want) =>
   match (all[j]?).bind Oper.dst with
   | none => none
   | some g =>
    match (at? l g).sv with
    | .dat ⟨.bool, t, .sh⟩ =>
     cond t (if want then go [g] (setSV l g (.dat ⟨.bool, true, .sh⟩)) else skip [g] (setSV l g (.dat ⟨.bool, true, .sh⟩)))
      (if want then skip [g] (setSV l g (.dat ⟨.bool, false, .sh⟩)) else go [g] (setSV l g (.dat ⟨.bool, false, .sh⟩)))
    | .und => skip [g] l
    | _ => none
theorem opsS_eq {E : Env} {R : Run E} {mv : List Nat} {all : List Oper} {draw : Bool} {κ : List Slot → Option ρ} : ∀ {os : List Oper} {i : Nat} {l : List Slot} {acc : List Rec}, opsS E R mv all draw os i l acc κ = opsK E R mv all draw os i l acc κ
 | [], _, _, _ => rfl
 | o :: os, i, l, acc => by
  unfold opsS opsK
  rw [forceL_eq]
  simp only [forceN_eq, opsS_eq (os := os)]
def scrubSV (l : List Slot) : SV → SV
 | .adr r p c s => if okB (at? l ·) r p c s then .adr r p 0 0 else .dead
 | .als r p c s => if okA (at? l ·) r c s then .als r p 0 0 else .dead
 | .clo g rs => if rs.all (fun x => Nat.beq (at? l x.1).s x.2) then .clo g (rs.map fun x => (x.1, 0)) else .dead
 | .dat d => .dat d
 | .tup d => .tup d
 | .unk => .unk
 | _ => .dead
def scrub (keep : List Nat) (l : List Slot) : List Slot → Nat → List SV
 | [], _ => []
 | x :: xs, i => (if keep.any (Nat.beq i ·) then scrubSV l x.sv else .dead) :: scrub keep l xs (i + 1)
inductive Ex where
 | nm
 | ex (id : Nat)
 | ret
structure Out where
 e : Ex
 σ : List SV
abbrev Loops := FuncId → Code → List SV → Option Out
def loopK (L : Loops) (f : FuncId) (b : Code) (σ : List SV) (κ : Out → Option ρ) : Option ρ := (L f b σ).bind κ
def kseq (k : List SV → (Out → Option ρ) → Option ρ) (κ : Out → Option ρ) : Out → Option ρ
 | ⟨.nm, σ⟩ => k σ κ
 | o => κ o
def kblock (id : Nat) (κ : Out → Option ρ) : Out → Option ρ
 | ⟨.ex j, σ⟩ => if Nat.beq j id then κ ⟨.nm, σ⟩ else κ ⟨.ex j, σ⟩
 | o => κ o
def start (σ : List SV) : List Slot := σ.map fun v => ⟨v, 0, 0, 0⟩
def mvOf (c : FCfg) (id : Nat) : List Nat := (c.mv.filter fun x => Nat.beq x.1 id).map (·.2)
noncomputable def agree (a b : Option ρ) : Option ρ := @ite _ (a = b) (Classical.propDecidable _) a none
theorem agree_self (a : Option ρ) : agree a a = a := if_pos rfl
theorem agree_some {a b : Option ρ} {r : ρ} (h : agree a b = some r) : a = some r ∧ b = some r := by
 unfold agree at h
 split at h
 ·rename_i e; subst e; exact ⟨h, h⟩
 ·cases h
theorem agree_of {a b : Option ρ} {r : ρ} (h : a = some r) (h' : b = some r) : agree a b = some r := by rw [h, h']; exact agree_self _
def unkOK (keep : List Nat) : Bool := keep.any (Nat.beq 900000 ·)
def codeKey : Code → Nat
 | .region id _ _ => id + 1
 | .seq a b => codeKey a + codeKey b
 | .cond _ a b => codeKey a + codeKey b
 | .block _ b => codeKey b
 | .loop b => codeKey b
 | _ => 0
def deadAt (c : FCfg) (b : Code) : List Nat := match c.mv.any (fun x => Nat.ble 4000000 x.1) with | true => mvOf c (4000000 + codeKey b) | false => []
def rootsS (ks : List Nat) : List SV → Nat → List Nat
 | [], _ => []
 | v :: vs, i =>
  match ks.any (Nat.beq i ·), v with
  | false, .adr r _ _ _ => r :: rootsS ks vs (i + 1)
  | false, .als r _ _ _ => r :: rootsS ks vs (i + 1)
  | false, .pend r _ _ _ _ _ => r :: rootsS ks vs (i + 1)
  | false, .clo _ rs => rs.map (·.1) ++ rootsS ks vs (i + 1)
  | _, _ => rootsS ks vs (i + 1)
def killGo (ks rs : List Nat) : List SV → Nat → List SV
 | [], _ => []
 | v :: vs, i => (if ks.any (Nat.beq i ·) && !rs.any (Nat.beq i ·) then .dead else v) :: killGo ks rs vs (i + 1)
def killS : List Nat → List SV → List SV
 | [], σ => σ
 | k :: ks, σ => killGo (k :: ks) (rootsS (k :: ks) σ 0) σ 0
def afterC (keep : List Nat) (t : Nat) (x : Bool) (σ : List SV) : List SV :=
 if keep.any (Nat.beq (t + 1000000) ·) then σ.set t (.dat ⟨.bool, x, .sh⟩) else σ.set t .dead
noncomputable def evB (E : Env) (R : Run E) (L : Loops) (f : FuncId) : Code → List SV → (Out → Option ρ) → Option ρ
 | .skip, σ, κ => κ ⟨.nm, σ⟩
 | .region id ops draw, σ, κ => opsS E R (mvOf (E.cfg f) id) ops.toList draw ops.toList 0 (start σ) [] fun l => κ ⟨.nm, scrub (E.cfg f).keep l l 0⟩
 | .seq a b, σ, κ => evB E R L f a σ (kseq (evB E R L f b) κ)
 | .cond c a b, σ, κ =>
  match c with
  | .tmp t =>
   match σ.getD t .dead with
   | .dat ⟨.bool, x, .sh⟩ => cond x (evB E R L f a (afterC (E.cfg f).keep t true σ) κ) (evB E R L f b (afterC (E.cfg f).keep t false σ) κ)
   | .unk => if unkOK (E.cfg f).keep then agree (evB E R L f a (σ.set t .dead) κ) (evB E R L f b (σ.set t .dead) κ) else none
   | _ => none
  | .const (.bool x) => cond x (evB E R L f a σ κ) (evB E R L f b σ κ)
  | _ => none
 | .block id b, σ, κ => evB E R L f b σ (kblock id κ)
 | .loop b, σ, κ => loopK L f b (killS (deadAt (E.cfg f) b) σ) κ
 | .exit id, σ, κ => κ ⟨.ex id, σ⟩
 | .ret, σ, κ => κ ⟨.ret, σ⟩
 | _, _, _ => none
def initSlots : List Mode → List Dyn → Nat → Option (List SV)
 | [], [], _ => some []
 | .ro t :: ms, a :: as, i => (castD a.t t a.x).bind fun x => (initSlots ms as (i + 1)).map (.dat ⟨t, x, .sh⟩ :: ·)
 | .mv t f :: ms, a :: as, i => (castD a.t t a.x).bind fun x => (initSlots ms as (i + 1)).map (.dat ⟨t, x, f⟩ :: ·)
 | .io t f _ _ _ :: ms, a :: as, i => (castD a.t t a.x).bind fun x => (initSlots ms as (i + 1)).map (.dat ⟨t, x, .mkpin i f⟩ :: ·)
 | _, _, _ => none
def resVar (E : Env) (σ : List SV) : ResultVar → Option Dat
 | .tmp s => match σ.getD s .dead with | .dat d => some d | _ => none
 | .cell a τ => match σ.getD a .dead with | .dat ⟨.ptr t, x, f⟩ => if E.ty τ = some t && !f.isGone then some ⟨t, x, f.e⟩ else none | _ => none
def resSlot : ResultVar → Nat
 | .tmp s => s
 | .cell a _ => a
def allSome {α : Type} : List (Option α) → Option (List α)
 | [] => some []
 | some a :: l => (allSome l).map (a :: ·)
 | none :: _ => none
def noIx : List PS → Bool
 | [] => true
 | .idx _ :: _ => false
 | .elm _ :: _ => false
 | _ :: p => noIx p
def ioDats (σ : List SV) : List Mode → Nat → Option (List Dat)
 | [], _ => some []
 | .io t _ fo s p :: ms, i =>
  match σ.getD s .dead with
  | .dat d => match getP p d.t d.f d.x with
   | some e => match e.f with
    | .pin j f => if Nat.beq i j && Fl.le fo (.pin j f) && e.t = t && !f.isGone && noIx p then (ioDats σ ms (i + 1)).map (⟨e.t, e.x, fo⟩ :: ·) else none
    | _ => none
   | none => none
  | _ => none
 | _ :: ms, i => ioDats σ ms (i + 1)
def ioSlots : List Mode → List Nat
 | [] => []
 | .io _ _ _ s _ :: ms => s :: ioSlots ms
 | _ :: ms => ioSlots ms
def collect : List Dat → (t : Ty) → Fl → Option t.D
 | [], .unit, _ => some ()
 | d :: ds, .pair a b, f => if Fl.le f.l d.f then (castD d.t a d.x).bind fun x => (collect ds b f.r).map fun y => (x, y) else none
 | _, _, _ => none
def finish (E : Env) (f : FuncId) (fn : Func) (σ : List SV) : Option (E.cfg f).rt.D :=
 if nodups (fn.results.toList.map resSlot ++ ioSlots (E.cfg f).modes) && Nat.beq fn.results.size (E.cfg f).nres && (E.cfg f).rf.nopin then
  match allSome (fn.results.toList.map (resVar E σ)), ioDats σ (E.cfg f).modes 0 with
  | some ds, some es => collect (ds ++ es) (E.cfg f).rt (E.cfg f).rf
  | _, _ => none
 else none
def retK (E : Env) (f : FuncId) (fn : Func) : Out → Option (E.cfg f).rt.D
 | ⟨.nm, σ⟩ => finish E f fn σ
 | ⟨.ret, σ⟩ => finish E f fn σ
 | _ => none
def pad (n : Nat) (σ : List SV) : List SV := σ ++ List.replicate (n - σ.length) .dead
def opIn (n : Nat) (o : Oper) : Bool :=
 (match o.dst with | some d => Nat.blt d n | none => true) && (tmpsOf o.op.operands.toList).all (Nat.blt · n)
def dstsOK (n : Nat) : Code → Bool
 | .region _ ops _ => ops.toList.all (opIn n)
 | .seq a b => dstsOK n a && dstsOK n b
 | .cond _ a b => dstsOK n a && dstsOK n b
 | .block _ b => dstsOK n b
 | .loop b => dstsOK n b
 | _ => true
noncomputable def bodyK (E : Env) (R : Run E) (L : Loops) (f : FuncId) (args : List Dyn) : Option (E.cfg f).rt.D :=
 match E.P.funcs[f]? with
 | some fn =>
  match fn.body, initSlots (E.cfg f).modes args 0 with
  | some c, some σ => if Nat.ble σ.length fn.ntmps && dstsOK fn.ntmps c then evB E R L f c (pad fn.ntmps σ) (retK E f fn) else none
  | _, _ => none
 | none => none
noncomputable def nextR (E : Env) (X : (f : FuncId) → Option (List Dyn → Option (E.cfg f).rt.D)) (R : Run E) (L : Loops) : Run E := fun f args =>
 match X f with
 | some h => h args
 | none => bodyK E R L f args
noncomputable def nextL (E : Env) (R : Run E) (L : Loops) : Loops := fun f b σ =>
 evB E R L f b σ fun o => match o with
  | ⟨.nm, σ⟩ => L f b (killS (deadAt (E.cfg f) b) σ)
  | o => some o
noncomputable def rounds (E : Env) (X : (f : FuncId) → Option (List Dyn → Option (E.cfg f).rt.D)) : Nat → Run E × Loops
 | 0 => (fun _ _ => none, fun _ _ _ => none)
 | k + 1 => (nextR E X (rounds E X k).1 (rounds E X k).2, nextL E (rounds E X k).1 (rounds E X k).2)
end Go.Rf

end
section
namespace Go.Rf
variable {ρ : Type}
def sub : Code → List Nat → Code
 | .seq a _, 0 :: p => sub a p
 | .seq _ b, 1 :: p => sub b p
 | .cond _ a _, 0 :: p => sub a p
 | .cond _ _ b, 1 :: p => sub b p
 | .block _ b, 0 :: p => sub b p
 | .loop b, 0 :: p => sub b p
 | c, _ => c
def kloop (E : Env) (L : Loops) (f : FuncId) (b : Code) (κ : Out → Option ρ) : Out → Option ρ
 | ⟨.nm, σ⟩ => loopK L f b (killS (deadAt (E.cfg f) b) σ) κ
 | o => κ o
noncomputable def kontAt (E : Env) (R : Run E) (L : Loops) (f : FuncId) : Code → List Nat → (Out → Option ρ) → (Out → Option ρ)
 | .seq a b, 0 :: p, κ => kontAt E R L f a p (kseq (evB E R L f b) κ)
 | .seq _ b, 1 :: p, κ => kontAt E R L f b p κ
 | .cond _ a _, 0 :: p, κ => kontAt E R L f a p κ
 | .cond _ _ b, 1 :: p, κ => kontAt E R L f b p κ
 | .block id b, 0 :: p, κ => kontAt E R L f b p (kblock id κ)
 | .loop b, 0 :: p, κ => kontAt E R L f b p (kloop E L f b κ)
 | _, _, κ => κ
def codeOf (fn : Func) : Code := fn.body.getD .skip
noncomputable def atLoop (E : Env) (R : Run E) (L : Loops) (f : FuncId) : Code → List SV → (Out → Option ρ) → Option ρ
 | .loop b, σ, κ => loopK L f b σ κ
 | c, σ, κ => evB E R L f c σ κ
noncomputable def from_ (E : Env) (R : Run E) (L : Loops) (f : FuncId) (fn : Func) (p : List Nat) (σ : List SV) : Option (E.cfg f).rt.D :=
 atLoop E R L f (sub (codeOf fn) p) σ (kontAt E R L f (codeOf fn) p (retK E f fn))
def putAll : List SV → List (Nat × SV) → List SV
 | σ, [] => σ
 | σ, (i, v) :: l => putAll (σ.set i v) l
def mk (n : Nat) (l : List (Nat × SV)) : List SV := putAll (List.replicate n .dead) l
end Go.Rf

end
section
namespace Go.Rf
def valOf (t : Ty) (c : List Value) : Value := match t.agg with | true => .agg c.toArray | false => c.headD undef
def Blk (w : World) (b : Nat) (cs : Array Value) : Prop := ∃ e fz, w.heap[b]? = some (.cells cs e fz)
def isU8 : Ty → Bool
 | .int .u8 => true
 | _ => false
def OBlk (q : Bool) (w : World) (b : Nat) (cs : Array Value) : Prop := ∃ e fz, w.heap[b]? = some (.cells cs e fz) ∧ (∀ o, o < cs.size → ¬ (fz.1 ≤ o ∧ o < fz.2)) ∧ (q = true ∨ fz = (0, 0))
theorem OBlk.blk {q : Bool} {w : World} {b : Nat} {cs : Array Value} (h : OBlk q w b cs) : Blk w b cs := let ⟨e, f, h, _⟩ := h; ⟨e, f, h⟩
theorem OBlk.lt {q : Bool} {w : World} {b : Nat} {cs : Array Value} (h : OBlk q w b cs) : b < w.heap.size := let ⟨_, _, h, _⟩ := h; (Array.getElem?_eq_some_iff.1 h).1
theorem Blk.lt {w : World} {b : Nat} {cs : Array Value} (h : Blk w b cs) : b < w.heap.size := let ⟨_, _, h⟩ := h; (Array.getElem?_eq_some_iff.1 h).1
theorem Blk.same {w w' : World} {b : Nat} {cs : Array Value} (e : w'.heap[b]? = w.heap[b]?) (h : Blk w b cs) : Blk w' b cs := by unfold Blk at *; rwa [e]
theorem OBlk.same {q : Bool} {w w' : World} {b : Nat} {cs : Array Value} (e : w'.heap[b]? = w.heap[b]?) (h : OBlk q w b cs) : OBlk q w' b cs := by unfold OBlk at *; rwa [e]
theorem Blk.inj {w : World} {b : Nat} {cs cs' : Array Value} (h : Blk w b cs) (h' : Blk w b cs') : cs = cs' := by
 obtain ⟨_, _, h⟩ := h; obtain ⟨_, _, h'⟩ := h'; rw [h] at h'; simp at h'; exact h'.1
def nth {α : Type} (l : List α) (i : Nat) : Option α := l[i]?
def win (c : List Value) (o n : Nat) : List Value := (c.drop o).take n
theorem win_len {c : List Value} {o n : Nat} (h : o + n ≤ c.length) : (win c o n).length = n := by simp [win]; omega
theorem win_all (c : List Value) : win c 0 c.length = c := by simp [win]
theorem win_zero_le {c : List Value} {n : Nat} : win c 0 n = c.take n := by simp [win]
section
variable (S : Nat → Prop) (w : World)
mutual
def FnRd : FnVal → Value → Prop
 | .nil, v => v = .nilFunc
 | .mk f cs, v => ∃ l : List Value, v = .func (.func f) #[] l.toArray ∧ CapsRd cs l
def CapsRd : FCaps → List Value → Prop
 | .nil, l => l = []
 | .int k n r, l => ∃ b l', l = .pointer (some ⟨b, 0, none⟩) :: l' ∧ S b ∧ Blk w b #[.int k n] ∧ CapsRd r l'
 | .fn v r, l => ∃ b u l', l = .pointer (some ⟨b, 0, none⟩) :: l' ∧ S b ∧ Blk w b #[u] ∧ FnRd v u ∧ CapsRd r l'
end
def Rd : (t : Ty) → t.D → List Value → Prop
 | .int k, x, c => c = [.int k x]
 | .bool, x, c => c = [.bool x]
 | .str, x, c => c = [.string ⟨⟨x⟩⟩]
 | .fn, x, c => ∃ v, c = [v] ∧ FnRd S w x v
 | .unit, _, c => c = []
 | .sl t, x, c => ∃ ad cap, c = [.slice ad (List.length x) cap] ∧ List.length x ≤ cap ∧
   (x = ([] : List t.D) ∨ ∃ b o cs, ad = some ⟨b, o, none⟩ ∧ S b ∧ Blk w b cs ∧ o + List.length x * t.size ≤ cs.size ∧
    ∀ (i : Nat) (y : t.D), nth x i = some y → Rd t y (win cs.toList (o + i * t.size) t.size))
 | .ptr t, x, c => ∃ b cs, c = [.pointer (some ⟨b, 0, none⟩)] ∧ S b ∧ Blk w b cs ∧ cs.size = t.size ∧ Rd t x cs.toList
 | .arr n t, x, c => List.length x = n ∧ c.length = n * t.size ∧ ∀ (i : Nat) (y : t.D), nth x i = some y → Rd t y (win c (i * t.size) t.size)
 | .pair a b, x, c => Rd a x.1 (c.take a.size) ∧ Rd b x.2 (c.drop a.size)
end
abbrev Key := List Nat
structure SameOut (w w' : World) : Prop where
 os : w'.os = w.os
 tape : w'.tape = w.tape
 output : w'.output = w.output
theorem SameOut.rfl' {w : World} : SameOut w w := ⟨rfl, rfl, rfl⟩
theorem SameOut.trans {w w' w'' : World} (h : SameOut w w') (h' : SameOut w' w'') : SameOut w w'' := ⟨h'.os.trans h.os, h'.tape.trans h.tape, h'.output.trans h.output⟩
section
variable (S : Nat → Prop) (β : Key → Option Nat) (H : Nat → Option (List Value)) (w : World)
def Pins (f : Fl) (c : List Value) : Prop := ∀ k ∈ f.pins, H k = some c
def VRel : Key → (t : Ty) → Fl → t.D → List Value → Prop
 | p, .sl t, f, x, c => Pins H f c ∧ match f.base with
  | .own e => ∃ ad cap, c = [.slice ad (List.length x) cap] ∧ List.length x ≤ cap ∧
    (cap = 0 ∨ ∃ b o cs, ad = some ⟨b, o, none⟩ ∧ β p = some b ∧ OBlk (isU8 t) w b cs ∧ o + cap * t.size ≤ cs.size ∧
     ∀ (i : Nat) (y : t.D), nth x i = some y → VRel (p ++ [i]) t e y (win cs.toList (o + i * t.size) t.size))
  | .gone => c.length = 1
  | _ => Rd S w (.sl t) x c
 | p, .ptr t, f, x, c => Pins H f c ∧ match f.base with
  | .own e => ∃ b cs, c = [.pointer (some ⟨b, 0, none⟩)] ∧ β p = some b ∧ OBlk false w b cs ∧ cs.size = t.size ∧ VRel (p ++ [0]) t e x cs.toList
  | .gone => c.length = 1
  | _ => Rd S w (.ptr t) x c
 | p, .arr n t, f, x, c => Pins H f c ∧ match f.base with
  | .ar e => List.length x = n ∧ c.length = n * t.size ∧ ∀ (i : Nat) (y : t.D), nth x i = some y → VRel (p ++ [i]) t e y (win c (i * t.size) t.size)
  | .gone => c.length = n * t.size
  | _ => Rd S w (.arr n t) x c
 | p, .pair a b, f, x, c => Pins H f c ∧ match f.base with
  | .pr g h => VRel (p ++ [0]) a g x.1 (c.take a.size) ∧ VRel (p ++ [1]) b h x.2 (c.drop a.size)
  | .gone => c.length = a.size + b.size
  | _ => Rd S w (.pair a b) x c
 | _, .int k, f, x, c => Pins H f c ∧ match f.base with | .gone => c.length = 1 | _ => Rd S w (.int k) x c
 | _, .bool, f, x, c => Pins H f c ∧ match f.base with | .gone => c.length = 1 | _ => Rd S w .bool x c
 | _, .str, f, x, c => Pins H f c ∧ match f.base with | .gone => c.length = 1 | _ => Rd S w .str x c
 | _, .fn, f, x, c => Pins H f c ∧ match f.base with | .gone => c.length = 1 | _ => Rd S w .fn x c
 | _, .unit, f, x, c => Pins H f c ∧ match f.base with | .gone => c.length = 0 | _ => Rd S w .unit x c
end
theorem take_drop_len {c : List Value} {n m : Nat} (h1 : (c.take n).length = n) (h2 : (c.drop n).length = m) : c.length = n + m := by
 simp at h1 h2; omega
theorem Rd_len {S : Nat → Prop} {w : World} : ∀ {t : Ty} {x : t.D} {c : List Value}, Rd S w t x c → c.length = t.size
 | .int _, _, _, h => by simp only [Rd] at h; subst h; rfl
 | .bool, _, _, h => by simp only [Rd] at h; subst h; rfl
 | .str, _, _, h => by simp only [Rd] at h; subst h; rfl
 | .fn, _, _, h => by simp only [Rd] at h; obtain ⟨v, rfl, _⟩ := h; rfl
 | .unit, _, _, h => by simp only [Rd] at h; subst h; rfl
 | .sl _, _, _, h => by simp only [Rd] at h; obtain ⟨_, _, rfl, _⟩ := h; rfl
 | .ptr _, _, _, h => by simp only [Rd] at h; obtain ⟨_, _, rfl, _⟩ := h; rfl
 | .arr _ _, _, _, h => by simp only [Rd] at h; exact h.2.1
 | .pair a b, _, _, h => by
  simp only [Rd] at h
  exact take_drop_len (Rd_len h.1) (Rd_len h.2)
theorem VRel_len {S : Nat → Prop} {β : Key → Option Nat} {H : Nat → Option (List Value)} {w : World} :
  ∀ {t : Ty} {p : Key} {f : Fl} {x : t.D} {c : List Value}, VRel S β H w p t f x c → c.length = t.size
 | .int _, _, _, _, _, h => by simp only [VRel] at h; obtain ⟨_, h⟩ := h; split at h; exact h; exact Rd_len h
 | .bool, _, _, _, _, h => by simp only [VRel] at h; obtain ⟨_, h⟩ := h; split at h; exact h; exact Rd_len h
 | .str, _, _, _, _, h => by simp only [VRel] at h; obtain ⟨_, h⟩ := h; split at h; exact h; exact Rd_len h
 | .fn, _, _, _, _, h => by simp only [VRel] at h; obtain ⟨_, h⟩ := h; split at h; exact h; exact Rd_len h
 | .unit, _, _, _, _, h => by simp only [VRel] at h; obtain ⟨_, h⟩ := h; split at h; exact h; exact Rd_len h
 | .sl _, _, _, _, _, h => by
  simp only [VRel] at h; obtain ⟨_, h⟩ := h; split at h
  ·obtain ⟨_, _, rfl, _⟩ := h; rfl
  ·exact h
  ·exact Rd_len h
 | .ptr _, _, _, _, _, h => by
  simp only [VRel] at h; obtain ⟨_, h⟩ := h; split at h
  ·obtain ⟨_, _, rfl, _⟩ := h; rfl
  ·exact h
  ·exact Rd_len h
 | .arr _ _, _, _, _, _, h => by
  simp only [VRel] at h; obtain ⟨_, h⟩ := h; split at h
  ·exact h.2.1
  ·exact h
  ·exact Rd_len h
 | .pair a b, _, _, _, _, h => by
  simp only [VRel] at h; obtain ⟨_, h⟩ := h; split at h
  ·exact take_drop_len (VRel_len h.1) (VRel_len h.2)
  ·exact h
  ·exact Rd_len h
mutual
theorem FnRd_mono {S S' : Nat → Prop} {w w' : World} (h : ∀ b, S b → S' b ∧ w'.heap[b]? = w.heap[b]?) : ∀ {v : FnVal} {u : Value}, FnRd S w v u → FnRd S' w' v u
 | .nil, _, k => by simp only [FnRd] at k ⊢; exact k
 | .mk f cs, _, k => by simp only [FnRd] at k ⊢; obtain ⟨l, e, k⟩ := k; exact ⟨l, e, CapsRd_mono h k⟩
theorem CapsRd_mono {S S' : Nat → Prop} {w w' : World} (h : ∀ b, S b → S' b ∧ w'.heap[b]? = w.heap[b]?) : ∀ {v : FCaps} {u : List Value}, CapsRd S w v u → CapsRd S' w' v u
 | .nil, _, k => by simp only [CapsRd] at k ⊢; exact k
 | .int k n r, _, q => by
  simp only [CapsRd] at q ⊢; obtain ⟨b, l, e, hs, hb, q⟩ := q
  exact ⟨b, l, e, (h b hs).1, hb.same (h b hs).2, CapsRd_mono h q⟩
 | .fn v r, _, q => by
  simp only [CapsRd] at q ⊢; obtain ⟨b, u, l, e, hs, hb, q, q'⟩ := q
  exact ⟨b, u, l, e, (h b hs).1, hb.same (h b hs).2, FnRd_mono h q, CapsRd_mono h q'⟩
end
theorem Rd_mono {S S' : Nat → Prop} {w w' : World} (h : ∀ b, S b → S' b ∧ w'.heap[b]? = w.heap[b]?) :
  ∀ {t : Ty} {x : t.D} {c : List Value}, Rd S w t x c → Rd S' w' t x c
 | .int _, _, _, k => by simp only [Rd] at k ⊢; exact k
 | .bool, _, _, k => by simp only [Rd] at k ⊢; exact k
 | .str, _, _, k => by simp only [Rd] at k ⊢; exact k
 | .fn, _, _, k => by simp only [Rd] at k ⊢; obtain ⟨v, e, k⟩ := k; exact ⟨v, e, FnRd_mono h k⟩
 | .unit, _, _, k => by simp only [Rd] at k ⊢; exact k
 | .sl _, _, _, k => by
  simp only [Rd] at k ⊢
  obtain ⟨ad, cap, e, hl, k⟩ := k
  refine ⟨ad, cap, e, hl, k.imp id ?_⟩
  rintro ⟨b, o, cs, e, hs, hb, hz, k⟩
  exact ⟨b, o, cs, e, (h b hs).1, hb.same (h b hs).2, hz, fun i y hy => Rd_mono h (k i y hy)⟩
 | .ptr _, _, _, k => by
  simp only [Rd] at k ⊢
  obtain ⟨b, cs, e, hs, hb, hz, k⟩ := k
  exact ⟨b, cs, e, (h b hs).1, hb.same (h b hs).2, hz, Rd_mono h k⟩
 | .arr _ _, _, _, k => by
  simp only [Rd] at k ⊢
  exact ⟨k.1, k.2.1, fun i y hy => Rd_mono h (k.2.2 i y hy)⟩
 | .pair _ _, _, _, k => by simp only [Rd] at k ⊢; exact ⟨Rd_mono h k.1, Rd_mono h k.2⟩
theorem VRel_trans {S S' : Nat → Prop} {β β' : Key → Option Nat} {H : Nat → Option (List Value)} {w w' : World} (h : ∀ b, S b → S' b ∧ w'.heap[b]? = w.heap[b]?) :
  ∀ {t : Ty} {p q : Key} {f : Fl} {x : t.D} {c : List Value}, (∀ s b, β (p ++ s) = some b → β' (q ++ s) = some b ∧ w'.heap[b]? = w.heap[b]?) →
   VRel S β H w p t f x c → VRel S' β' H w' q t f x c
 | .int _, _, _, _, _, _, _, k => by simp only [VRel] at k ⊢; refine ⟨k.1, ?_⟩; replace k := k.2; split at k; exact k; exact Rd_mono h k
 | .bool, _, _, _, _, _, _, k => by simp only [VRel] at k ⊢; refine ⟨k.1, ?_⟩; replace k := k.2; split at k; exact k; exact Rd_mono h k
 | .str, _, _, _, _, _, _, k => by simp only [VRel] at k ⊢; refine ⟨k.1, ?_⟩; replace k := k.2; split at k; exact k; exact Rd_mono h k
 | .fn, _, _, _, _, _, _, k => by simp only [VRel] at k ⊢; refine ⟨k.1, ?_⟩; replace k := k.2; split at k; exact k; exact Rd_mono h k
 | .unit, _, _, _, _, _, _, k => by simp only [VRel] at k ⊢; refine ⟨k.1, ?_⟩; replace k := k.2; split at k; exact k; exact Rd_mono h k
 | .sl _, p, q, f, _, _, hb, k => by
  simp only [VRel] at k ⊢
  refine ⟨k.1, ?_⟩
  replace k := k.2
  split at k
  ·obtain ⟨ad, cap, e, hl, k⟩ := k
   refine ⟨ad, cap, e, hl, k.imp id ?_⟩
   rintro ⟨b, o, cs, e, hp, ho, hz, k⟩
   have hq := hb [] b (by simpa using hp)
   simp only [List.append_nil] at hq
   exact ⟨b, o, cs, e, hq.1, ho.same hq.2, hz, fun i y hy => VRel_trans h (fun s b hs => by simpa using hb (i :: s) b (by simpa using hs)) (k i y hy)⟩
  ·exact k
  ·exact Rd_mono h k
 | .ptr _, p, q, f, _, _, hb, k => by
  simp only [VRel] at k ⊢
  refine ⟨k.1, ?_⟩
  replace k := k.2
  split at k
  ·obtain ⟨b, cs, e, hp, ho, hz, k⟩ := k
   have hq := hb [] b (by simpa using hp)
   simp only [List.append_nil] at hq
   exact ⟨b, cs, e, hq.1, ho.same hq.2, hz, VRel_trans h (fun s b hs => by simpa using hb (0 :: s) b (by simpa using hs)) k⟩
  ·exact k
  ·exact Rd_mono h k
 | .arr _ _, p, q, f, _, _, hb, k => by
  simp only [VRel] at k ⊢
  refine ⟨k.1, ?_⟩
  replace k := k.2
  split at k
  ·exact ⟨k.1, k.2.1, fun i y hy => VRel_trans h (fun s b hs => by simpa using hb (i :: s) b (by simpa using hs)) (k.2.2 i y hy)⟩
  ·exact k
  ·exact Rd_mono h k
 | .pair _ _, p, q, f, _, _, hb, k => by
  simp only [VRel] at k ⊢
  refine ⟨k.1, ?_⟩
  replace k := k.2
  split at k
  ·exact ⟨VRel_trans h (fun s b hs => by simpa using hb (0 :: s) b (by simpa using hs)) k.1, VRel_trans h (fun s b hs => by simpa using hb (1 :: s) b (by simpa using hs)) k.2⟩
  ·exact k
  ·exact Rd_mono h k
end Go.Rf

end
section
namespace Go.Rf
def ownsK : (t : Ty) → Fl → Key → Bool
 | .sl t, f, s => match f.base with
  | .own e => match s with | [] => true | _ :: s => ownsK t e s
  | _ => false
 | .ptr t, f, s => match f.base with
  | .own e => match s with | [] => true | 0 :: s => ownsK t e s | _ => false
  | _ => false
 | .arr _ t, f, s => match f.base with
  | .ar e => match s with | _ :: s => ownsK t e s | _ => false
  | _ => false
 | .pair a b, f, s => match f.base with
  | .pr g h => match s with | 0 :: s => ownsK a g s | 1 :: s => ownsK b h s | _ => false
  | _ => false
 | _, _, _ => false
theorem base_whole : ∀ {f : Fl}, f.whole = true → f.base.whole = true
 | .pin _ f, h => by simp only [Fl.whole] at h; simp only [Fl.base]; exact base_whole h
 | .sh, h | .gone, h | .own _, h | .pr _ _, h | .ar _, h => h
theorem base_ne_pin : ∀ {f : Fl} {k : Nat} {g : Fl}, f.base ≠ .pin k g
 | .pin _ f, _, _ => by simp only [Fl.base]; exact base_ne_pin
 | .sh, _, _ | .gone, _, _ | .own _, _, _ | .pr _ _, _, _ | .ar _, _, _ => by simp [Fl.base]
theorem le_base : ∀ {f g : Fl}, g.le f = true → g.base.le f.base = true
 | .pin k f, .pin j e, h => by simp only [Fl.le, Bool.and_eq_true] at h; simp only [Fl.base]; exact le_base h.2
 | .pin k f, .sh, h | .pin k f, .gone, h | .pin k f, .own _, h | .pin k f, .pr _ _, h | .pin k f, .ar _, h => by
  simp only [Fl.le] at h; simp only [Fl.base]; exact le_base (f := f) h
 | .sh, g, h => by cases g <;> simp_all [Fl.le, Fl.base, Fl.low]
 | .gone, g, h => by cases g <;> simp_all [Fl.le, Fl.base]
 | .own f, g, h => by cases g <;> simp_all [Fl.le, Fl.base]
 | .pr a b, g, h => by cases g <;> simp_all [Fl.le, Fl.base]
 | .ar a, g, h => by cases g <;> simp_all [Fl.le, Fl.base]
theorem le_pins : ∀ {f g : Fl}, g.le f = true → ∀ k ∈ g.pins, k ∈ f.pins
 | .pin k f, .pin j e, h => by
  simp only [Fl.le, Bool.and_eq_true] at h
  simp only [Fl.pins, List.mem_cons]
  rintro i (rfl | hi)
  ·exact .inl (Nat.eq_of_beq_eq_true h.1)
  ·exact .inr (le_pins h.2 i hi)
 | .pin k f, .sh, h | .pin k f, .gone, h | .pin k f, .own _, h | .pin k f, .pr _ _, h | .pin k f, .ar _, h => by simp [Fl.pins]
 | .sh, g, h => by cases g <;> simp_all [Fl.le, Fl.pins, Fl.low]
 | .gone, g, h => by cases g <;> simp_all [Fl.le, Fl.pins]
 | .own f, g, h => by cases g <;> simp_all [Fl.le, Fl.pins]
 | .pr a b, g, h => by cases g <;> simp_all [Fl.le, Fl.pins]
 | .ar a, g, h => by cases g <;> simp_all [Fl.le, Fl.pins]
section
variable {S S' : Nat → Prop} {β β' : Key → Option Nat} {H : Nat → Option (List Value)} {w w' : World}
theorem nil_of_cap {α : Type} {x : List α} {cap : Nat} (h : x.length ≤ cap) (hc : cap = 0) : x = [] := List.length_eq_zero_iff.1 (by omega)
theorem VRel_read : ∀ {t : Ty} {p : Key} {f : Fl} {x : t.D} {c : List Value}, f.whole = true →
   (∀ b, S b → S' b) → (∀ s b, β (p ++ s) = some b → S' b) → VRel S β H w p t f x c → Rd S' w t x c
 | .int _, _, _, _, _, hf, h, hb, k => by
  simp only [VRel] at k; replace k := k.2; have := base_whole hf
  split at k
  ·simp_all [Fl.whole]
  ·exact Rd_mono (fun b hs => ⟨h b hs, rfl⟩) k
 | .bool, _, _, _, _, hf, h, hb, k => by
  simp only [VRel] at k; replace k := k.2; have := base_whole hf
  split at k
  ·simp_all [Fl.whole]
  ·exact Rd_mono (fun b hs => ⟨h b hs, rfl⟩) k
 | .str, _, _, _, _, hf, h, hb, k => by
  simp only [VRel] at k; replace k := k.2; have := base_whole hf
  split at k
  ·simp_all [Fl.whole]
  ·exact Rd_mono (fun b hs => ⟨h b hs, rfl⟩) k
 | .fn, _, _, _, _, hf, h, hb, k => by
  simp only [VRel] at k; replace k := k.2; have := base_whole hf
  split at k
  ·simp_all [Fl.whole]
  ·exact Rd_mono (fun b hs => ⟨h b hs, rfl⟩) k
 | .unit, _, _, _, _, hf, h, hb, k => by
  simp only [VRel] at k; replace k := k.2; have := base_whole hf
  split at k
  ·simp_all [Fl.whole]
  ·exact Rd_mono (fun b hs => ⟨h b hs, rfl⟩) k
 | .sl t, p, f, x, _, hf, h, hb, k => by
  simp only [VRel] at k; replace k := k.2; have hw := base_whole hf
  split at k
  ·rename_i e he
   rw [he] at hw
   obtain ⟨ad, cap, e1, hl, k⟩ := k
   simp only [Rd]
   refine ⟨ad, cap, e1, hl, ?_⟩
   rcases k with hc | ⟨b, o, cs, e, hp, ho, hz, k⟩
   ·exact .inl (nil_of_cap hl hc)
   ·refine .inr ⟨b, o, cs, e, hb [] b (by simpa using hp), ho.blk, ?_, fun i y hy => ?_⟩
    ·have := Nat.mul_le_mul_right t.size hl; omega
    ·exact VRel_read (by simpa [Fl.whole] using hw) h (fun s b hs => hb (i :: s) b (by simpa using hs)) (k i y hy)
  ·simp_all [Fl.whole]
  ·exact Rd_mono (fun b hs => ⟨h b hs, rfl⟩) k
 | .ptr t, p, f, x, _, hf, h, hb, k => by
  simp only [VRel] at k; replace k := k.2; have hw := base_whole hf
  split at k
  ·rename_i e he
   rw [he] at hw
   obtain ⟨b, cs, e1, hp, ho, hz, k⟩ := k
   simp only [Rd]
   exact ⟨b, cs, e1, hb [] b (by simpa using hp), ho.blk, hz, VRel_read (by simpa [Fl.whole] using hw) h (fun s b hs => hb (0 :: s) b (by simpa using hs)) k⟩
  ·simp_all [Fl.whole]
  ·exact Rd_mono (fun b hs => ⟨h b hs, rfl⟩) k
 | .arr _ t, p, f, x, _, hf, h, hb, k => by
  simp only [VRel] at k; replace k := k.2; have hw := base_whole hf
  split at k
  ·rename_i e he
   rw [he] at hw
   simp only [Rd]
   exact ⟨k.1, k.2.1, fun i y hy => VRel_read (by simpa [Fl.whole] using hw) h (fun s b hs => hb (i :: s) b (by simpa using hs)) (k.2.2 i y hy)⟩
  ·simp_all [Fl.whole]
  ·exact Rd_mono (fun b hs => ⟨h b hs, rfl⟩) k
 | .pair _ _, p, f, x, _, hf, h, hb, k => by
  simp only [VRel] at k; replace k := k.2; have hw := base_whole hf
  split at k
  ·rename_i g g' he
   rw [he] at hw
   simp only [Fl.whole, Bool.and_eq_true] at hw
   simp only [Rd]
   exact ⟨VRel_read hw.1 h (fun s b hs => hb (0 :: s) b (by simpa using hs)) k.1, VRel_read hw.2 h (fun s b hs => hb (1 :: s) b (by simpa using hs)) k.2⟩
  ·simp_all [Fl.whole]
  ·exact Rd_mono (fun b hs => ⟨h b hs, rfl⟩) k
theorem Pins.le {f g : Fl} {c : List Value} (h : g.le f = true) (k : Pins H f c) : Pins H g c := fun i hi => k i (le_pins h i hi)
theorem low_base : ∀ {f : Fl}, f.low = true → f.base = f ∧ f.pins = []
 | .sh, _ | .gone, _ | .pr _ _, _ | .ar _, _ => ⟨rfl, rfl⟩
 | .own _, h => by simp [Fl.low] at h
 | .pin _ _, h => by simp [Fl.low] at h
theorem VRel_low : ∀ {t : Ty} {p : Key} {f : Fl} {x : t.D} {c : List Value}, f.low = true → Rd S w t x c → VRel S β H w p t f x c
 | .int _, _, f, _, _, hf, k => by have := Rd_len k; simp only [VRel, (low_base hf).1, Pins, (low_base hf).2]; refine ⟨by simp, ?_⟩; cases f <;> first | exact k | exact this
 | .bool, _, f, _, _, hf, k => by have := Rd_len k; simp only [VRel, (low_base hf).1, Pins, (low_base hf).2]; refine ⟨by simp, ?_⟩; cases f <;> first | exact k | exact this
 | .str, _, f, _, _, hf, k => by have := Rd_len k; simp only [VRel, (low_base hf).1, Pins, (low_base hf).2]; refine ⟨by simp, ?_⟩; cases f <;> first | exact k | exact this
 | .fn, _, f, _, _, hf, k => by have := Rd_len k; simp only [VRel, (low_base hf).1, Pins, (low_base hf).2]; refine ⟨by simp, ?_⟩; cases f <;> first | exact k | exact this
 | .unit, _, f, _, _, hf, k => by have := Rd_len k; simp only [VRel, (low_base hf).1, Pins, (low_base hf).2]; refine ⟨by simp, ?_⟩; cases f <;> first | exact k | exact this
 | .sl t, _, f, _, _, hf, k => by have := Rd_len k; simp only [VRel, (low_base hf).1, Pins, (low_base hf).2]; refine ⟨by simp, ?_⟩; cases f <;> first | exact k | exact this | simp [Fl.low] at hf
 | .ptr t, _, f, _, _, hf, k => by have := Rd_len k; simp only [VRel, (low_base hf).1, Pins, (low_base hf).2]; refine ⟨by simp, ?_⟩; cases f <;> first | exact k | exact this | simp [Fl.low] at hf
 | .arr n t, _, f, _, _, hf, k => by
  have := Rd_len k
  simp only [VRel, (low_base hf).1, Pins, (low_base hf).2]
  refine ⟨by simp, ?_⟩
  cases f with
  | ar e => simp only [Rd] at k; exact ⟨k.1, k.2.1, fun i y hy => VRel_low (by simpa [Fl.low] using hf) (k.2.2 i y hy)⟩
  | _ => first | exact k | exact this
 | .pair a b, _, f, _, _, hf, k => by
  have := Rd_len k
  simp only [VRel, (low_base hf).1, Pins, (low_base hf).2]
  refine ⟨by simp, ?_⟩
  cases f with
  | pr e1 e2 => simp only [Rd] at k; simp only [Fl.low, Bool.and_eq_true] at hf; exact ⟨VRel_low hf.1 k.1, VRel_low hf.2 k.2⟩
  | _ => first | exact k | exact this
theorem flat_le {f g : Fl} {P : Prop} {Q : Prop} (hle : g.base.le f.base = true) {n : Nat} {c : List Value}
  (hq : P → c.length = n) (hpq : P → Q)
  (k : match f.base with | .gone => c.length = n | _ => P) : match g.base with | .gone => c.length = n | _ => Q := by
 revert hle k
 cases f.base <;> cases g.base <;> simp [Fl.le, Fl.low] <;> intros <;> first | assumption | (apply hq; assumption) | (apply hpq; assumption)
theorem VRel_le (h : ∀ b, S b → S' b ∧ w'.heap[b]? = w.heap[b]?) :
  ∀ {t : Ty} {p q : Key} {f g : Fl} {x : t.D} {c : List Value}, g.le f = true →
   (∀ s b, β (p ++ s) = some b → w'.heap[b]? = w.heap[b]? ∧ (ownsK t g s = true → β' (q ++ s) = some b) ∧ (ownsK t g s = false → S' b)) →
   VRel S β H w p t f x c → VRel S' β' H w' q t g x c
 | .int _, p, q, f, g, x, c, hle, hb, k => by
  simp only [VRel] at k ⊢
  exact ⟨k.1.le hle, flat_le (le_base hle) Rd_len (Rd_mono h) k.2⟩
 | .bool, p, q, f, g, x, c, hle, hb, k => by
  simp only [VRel] at k ⊢
  exact ⟨k.1.le hle, flat_le (le_base hle) Rd_len (Rd_mono h) k.2⟩
 | .str, p, q, f, g, x, c, hle, hb, k => by
  simp only [VRel] at k ⊢
  exact ⟨k.1.le hle, flat_le (le_base hle) Rd_len (Rd_mono h) k.2⟩
 | .fn, p, q, f, g, x, c, hle, hb, k => by
  simp only [VRel] at k ⊢
  exact ⟨k.1.le hle, flat_le (le_base hle) Rd_len (Rd_mono h) k.2⟩
 | .unit, p, q, f, g, x, c, hle, hb, k => by
  simp only [VRel] at k ⊢
  exact ⟨k.1.le hle, flat_le (le_base hle) Rd_len (Rd_mono h) k.2⟩
 | .sl t, p, q, f, g, x, c, hle, hb, k => by
  have hl := VRel_len k
  have hle' := le_base hle
  have hrd : f.whole = true → (∀ s, ownsK (.sl t) g s = false) → Rd S' w' (.sl t) x c := fun hw hn =>
   Rd_mono (S := fun b => (S b ∨ ∃ s, β (p ++ s) = some b)) (fun b hs => hs.elim (h b) (fun ⟨s, hs⟩ => ⟨(hb s b hs).2.2 (hn s), (hb s b hs).1⟩))
    (VRel_read hw (fun _ => .inl) (fun s b hs => .inr ⟨s, hs⟩) k)
  simp only [VRel] at k ⊢
  refine ⟨k.1.le hle, ?_⟩
  replace k := k.2
  cases hg : g.base with
  | gone => exact hl
  | own e =>
   cases hf : f.base with
   | own e' =>
    rw [hf, hg] at hle'
    rw [hf] at k
    obtain ⟨ad, cap, e1, hl, k⟩ := k
    refine ⟨ad, cap, e1, hl, k.imp id ?_⟩
    rintro ⟨b, o, cs, e2, hp, ho, hz, k⟩
    have h0 := hb [] b (by simpa using hp)
    exact ⟨b, o, cs, e2, by simpa using h0.2.1 (by simp [ownsK, hg]), ho.same h0.1, hz, fun i y hy => VRel_le h (by simpa [Fl.le] using hle')
     (fun s b hs => by
      have := hb (i :: s) b (by simpa using hs)
      refine ⟨this.1, fun ho => by simpa using this.2.1 (by simpa [ownsK, hg] using ho), fun ho => this.2.2 (by simpa [ownsK, hg] using ho)⟩) (k i y hy)⟩
   | _ => rw [hf, hg] at hle'; simp_all [Fl.le, Fl.low, base_ne_pin]
  | sh =>
   have hn : ∀ s, ownsK (.sl t) g s = false := fun s => by simp [ownsK, hg]
   cases hf : f.base with
   | sh => rw [hf] at k; exact Rd_mono h k
   | gone => rw [hf, hg] at hle'; simp [Fl.le] at hle'
   | own e' =>
    rw [hf, hg] at hle'
    refine Rd_mono (S := fun b => (S b ∨ ∃ s, β (p ++ s) = some b)) (fun b hs => hs.elim (h b) (fun ⟨s, hs⟩ => ⟨(hb s b hs).2.2 (hn s), (hb s b hs).1⟩)) ?_
    rw [hf] at k
    simp only [Fl.le] at hle'
    exact VRel_read (f := .own e') (t := .sl t) (p := p) (H := H) (β := β) (S := S) (by simpa [Fl.whole] using hle') (fun _ => .inl) (fun s b hs => .inr ⟨s, hs⟩)
     (by simp only [VRel]; exact ⟨by simp [Pins, Fl.pins], k⟩)
   | pr a b => rw [hf] at k; exact Rd_mono h k
   | ar a => rw [hf] at k; exact Rd_mono h k
   | pin a b => exact absurd hf base_ne_pin
  | pr a b =>
   cases hf : f.base with
   | own e' => rw [hf, hg] at hle'; simp [Fl.le] at hle'
   | gone => rw [hf, hg] at hle'; simp [Fl.le] at hle'
   | pin a b => exact absurd hf base_ne_pin
   | _ => rw [hf] at k; exact Rd_mono h k
  | ar a =>
   cases hf : f.base with
   | own e' => rw [hf, hg] at hle'; simp [Fl.le] at hle'
   | gone => rw [hf, hg] at hle'; simp [Fl.le] at hle'
   | pin a b => exact absurd hf base_ne_pin
   | _ => rw [hf] at k; exact Rd_mono h k
  | pin a b => exact absurd hg base_ne_pin
 | .ptr t, p, q, f, g, x, c, hle, hb, k => by
  have hl := VRel_len k
  have hle' := le_base hle
  simp only [VRel] at k ⊢
  refine ⟨k.1.le hle, ?_⟩
  replace k := k.2
  cases hg : g.base with
  | gone => exact hl
  | own e =>
   cases hf : f.base with
   | own e' =>
    rw [hf, hg] at hle'
    rw [hf] at k
    obtain ⟨b, cs, e2, hp, ho, hz, k⟩ := k
    have h0 := hb [] b (by simpa using hp)
    exact ⟨b, cs, e2, by simpa using h0.2.1 (by simp [ownsK, hg]), ho.same h0.1, hz, VRel_le h (by simpa [Fl.le] using hle')
     (fun s b hs => by
      have := hb (0 :: s) b (by simpa using hs)
      refine ⟨this.1, fun ho => by simpa using this.2.1 (by simpa [ownsK, hg] using ho), fun ho => this.2.2 (by simpa [ownsK, hg] using ho)⟩) k⟩
   | _ => rw [hf, hg] at hle'; simp_all [Fl.le, Fl.low, base_ne_pin]
  | sh =>
   have hn : ∀ s, ownsK (.ptr t) g s = false := fun s => by simp [ownsK, hg]
   cases hf : f.base with
   | sh => rw [hf] at k; exact Rd_mono h k
   | gone => rw [hf, hg] at hle'; simp [Fl.le] at hle'
   | own e' =>
    rw [hf, hg] at hle'
    refine Rd_mono (S := fun b => (S b ∨ ∃ s, β (p ++ s) = some b)) (fun b hs => hs.elim (h b) (fun ⟨s, hs⟩ => ⟨(hb s b hs).2.2 (hn s), (hb s b hs).1⟩)) ?_
    rw [hf] at k
    simp only [Fl.le] at hle'
    exact VRel_read (f := .own e') (t := .ptr t) (p := p) (H := H) (β := β) (S := S) (by simpa [Fl.whole] using hle') (fun _ => .inl) (fun s b hs => .inr ⟨s, hs⟩)
     (by simp only [VRel]; exact ⟨by simp [Pins, Fl.pins], k⟩)
   | pr a b => rw [hf] at k; exact Rd_mono h k
   | ar a => rw [hf] at k; exact Rd_mono h k
   | pin a b => exact absurd hf base_ne_pin
  | pr a b =>
   cases hf : f.base with
   | own e' => rw [hf, hg] at hle'; simp [Fl.le] at hle'
   | gone => rw [hf, hg] at hle'; simp [Fl.le] at hle'
   | pin a b => exact absurd hf base_ne_pin
   | _ => rw [hf] at k; exact Rd_mono h k
  | ar a =>
   cases hf : f.base with
   | own e' => rw [hf, hg] at hle'; simp [Fl.le] at hle'
   | gone => rw [hf, hg] at hle'; simp [Fl.le] at hle'
   | pin a b => exact absurd hf base_ne_pin
   | _ => rw [hf] at k; exact Rd_mono h k
  | pin a b => exact absurd hg base_ne_pin
 | .arr n t, p, q, f, g, x, c, hle, hb, k => by
  have hl := VRel_len k
  have hle' := le_base hle
  simp only [VRel] at k ⊢
  refine ⟨k.1.le hle, ?_⟩
  replace k := k.2
  cases hg : g.base with
  | gone => exact hl
  | ar e =>
   cases hf : f.base with
   | ar e' =>
    rw [hf, hg] at hle'
    rw [hf] at k
    exact ⟨k.1, k.2.1, fun i y hy => VRel_le h (by simpa [Fl.le] using hle')
     (fun s b hs => by
      have := hb (i :: s) b (by simpa using hs)
      refine ⟨this.1, fun ho => by simpa using this.2.1 (by simpa [ownsK, hg] using ho), fun ho => this.2.2 (by simpa [ownsK, hg] using ho)⟩) (k.2.2 i y hy)⟩
   | sh =>
    rw [hf, hg] at hle'
    rw [hf] at k
    simp only [Rd] at k
    simp only [Fl.le, Fl.low] at hle'
    exact ⟨k.1, k.2.1, fun i y hy => VRel_low (by simpa using hle') (Rd_mono h (k.2.2 i y hy))⟩
   | _ => rw [hf, hg] at hle'; simp_all [Fl.le, Fl.low, base_ne_pin]
  | sh =>
   have hn : ∀ s, ownsK (.arr n t) g s = false := fun s => by simp [ownsK, hg]
   cases hf : f.base with
   | sh => rw [hf] at k; exact Rd_mono h k
   | gone => rw [hf, hg] at hle'; simp [Fl.le] at hle'
   | ar e' =>
    rw [hf, hg] at hle'
    refine Rd_mono (S := fun b => (S b ∨ ∃ s, β (p ++ s) = some b)) (fun b hs => hs.elim (h b) (fun ⟨s, hs⟩ => ⟨(hb s b hs).2.2 (hn s), (hb s b hs).1⟩)) ?_
    rw [hf] at k
    simp only [Fl.le] at hle'
    exact VRel_read (f := .ar e') (t := .arr n t) (p := p) (H := H) (β := β) (S := S) (by simpa [Fl.whole] using hle') (fun _ => .inl) (fun s b hs => .inr ⟨s, hs⟩)
     (by simp only [VRel]; exact ⟨by simp [Pins, Fl.pins], k⟩)
   | pr a b => rw [hf] at k; exact Rd_mono h k
   | own a => rw [hf] at k; exact Rd_mono h k
   | pin a b => exact absurd hf base_ne_pin
  | pr a b =>
   cases hf : f.base with
   | ar e' => rw [hf, hg] at hle'; simp [Fl.le] at hle'
   | gone => rw [hf, hg] at hle'; simp [Fl.le] at hle'
   | pin a b => exact absurd hf base_ne_pin
   | _ => rw [hf] at k; exact Rd_mono h k
  | own a =>
   cases hf : f.base with
   | ar e' => rw [hf, hg] at hle'; simp [Fl.le] at hle'
   | gone => rw [hf, hg] at hle'; simp [Fl.le] at hle'
   | pin a b => exact absurd hf base_ne_pin
   | _ => rw [hf] at k; exact Rd_mono h k
  | pin a b => exact absurd hg base_ne_pin
 | .pair a b, p, q, f, g, x, c, hle, hb, k => by
  have hl := VRel_len k
  have hle' := le_base hle
  simp only [VRel] at k ⊢
  refine ⟨k.1.le hle, ?_⟩
  replace k := k.2
  cases hg : g.base with
  | gone => exact hl
  | pr e1 e2 =>
   cases hf : f.base with
   | pr e1' e2' =>
    rw [hf, hg] at hle'
    rw [hf] at k
    simp only [Fl.le, Bool.and_eq_true] at hle'
    exact ⟨VRel_le h hle'.1 (fun s b hs => by
      have := hb (0 :: s) b (by simpa using hs)
      refine ⟨this.1, fun ho => by simpa using this.2.1 (by simpa [ownsK, hg] using ho), fun ho => this.2.2 (by simpa [ownsK, hg] using ho)⟩) k.1,
     VRel_le h hle'.2 (fun s b hs => by
      have := hb (1 :: s) b (by simpa using hs)
      refine ⟨this.1, fun ho => by simpa using this.2.1 (by simpa [ownsK, hg] using ho), fun ho => this.2.2 (by simpa [ownsK, hg] using ho)⟩) k.2⟩
   | sh =>
    rw [hf, hg] at hle'
    rw [hf] at k
    simp only [Rd] at k
    simp only [Fl.le, Fl.low, Bool.and_eq_true] at hle'
    exact ⟨VRel_low hle'.1 (Rd_mono h k.1), VRel_low hle'.2 (Rd_mono h k.2)⟩
   | _ => rw [hf, hg] at hle'; simp_all [Fl.le, Fl.low, base_ne_pin]
  | sh =>
   have hn : ∀ s, ownsK (.pair a b) g s = false := fun s => by simp [ownsK, hg]
   cases hf : f.base with
   | sh => rw [hf] at k; exact Rd_mono h k
   | gone => rw [hf, hg] at hle'; simp [Fl.le] at hle'
   | pr e1' e2' =>
    rw [hf, hg] at hle'
    refine Rd_mono (S := fun b => (S b ∨ ∃ s, β (p ++ s) = some b)) (fun b hs => hs.elim (h b) (fun ⟨s, hs⟩ => ⟨(hb s b hs).2.2 (hn s), (hb s b hs).1⟩)) ?_
    rw [hf] at k
    simp only [Fl.le] at hle'
    exact VRel_read (f := .pr e1' e2') (t := .pair a b) (p := p) (H := H) (β := β) (S := S) (by simpa [Fl.whole] using hle') (fun _ => .inl) (fun s b hs => .inr ⟨s, hs⟩)
     (by simp only [VRel]; exact ⟨by simp [Pins, Fl.pins], k⟩)
   | ar e' => rw [hf] at k; exact Rd_mono h k
   | own a => rw [hf] at k; exact Rd_mono h k
   | pin a b => exact absurd hf base_ne_pin
  | ar e =>
   cases hf : f.base with
   | pr e1 e2 => rw [hf, hg] at hle'; simp [Fl.le] at hle'
   | gone => rw [hf, hg] at hle'; simp [Fl.le] at hle'
   | pin a b => exact absurd hf base_ne_pin
   | _ => rw [hf] at k; exact Rd_mono h k
  | own e =>
   cases hf : f.base with
   | pr e1 e2 => rw [hf, hg] at hle'; simp [Fl.le] at hle'
   | gone => rw [hf, hg] at hle'; simp [Fl.le] at hle'
   | pin a b => exact absurd hf base_ne_pin
   | _ => rw [hf] at k; exact Rd_mono h k
  | pin a b => exact absurd hg base_ne_pin
theorem VRel_sh {p : Key} {t : Ty} {x : t.D} {c : List Value} : VRel S β H w p t .sh x c ↔ Rd S w t x c := by
 cases t <;> simp [VRel, Fl.base, Pins, Fl.pins]
end
end Go.Rf

end
section
namespace Go.Rf
inductive Loc where
 | reg (c : List Value)
 | mem (b o : Nat)
def cellsAt (w : World) (n : Nat) : Loc → Option (List Value)
 | .reg c => if c.length = n then some c else none
 | .mem b o => match w.heap[b]? with
  | some (.cells cs _ _) => if o + n ≤ cs.size then some (win cs.toList o n) else none
  | _ => none
def subL : Loc → Nat → Nat → Loc
 | .reg c, i, m => .reg (win c i m)
 | .mem b o, i, _ => .mem b (o + i)
def stepL (w : World) : Ty → Loc → PS → Option (Ty × Loc)
 | .pair a _, L, .fst => some (a, subL L 0 a.size)
 | .pair a b, L, .snd => some (b, subL L a.size b.size)
 | .arr n t, L, .idx i => if i < n then some (t, subL L (i * t.size) t.size) else none
 | .ptr t, L, .der => match cellsAt w 1 L with
  | some [.pointer (some ⟨b, 0, none⟩)] => some (t, .mem b 0)
  | _ => none
 | .sl t, L, .elm i => match cellsAt w 1 L with
  | some [.slice (some ⟨b, o, none⟩) n _] => if i < n then some (t, .mem b (o + i * t.size)) else none
  | _ => none
 | _, _, _ => none
def walk (w : World) : Ty → Loc → List PS → Option (Ty × Loc)
 | t, L, [] => some (t, L)
 | t, L, s :: p => match stepL w t L s with
  | some (t', L') => walk w t' L' p
  | none => none
def keyP : List PS → Key
 | [] => []
 | .der :: p => 0 :: keyP p
 | .fst :: p => 0 :: keyP p
 | .snd :: p => 1 :: keyP p
 | .idx i :: p => i :: keyP p
 | .elm i :: p => i :: keyP p
def inB : List PS → (t : Ty) → t.D → Prop
 | .fst :: p, .pair a _, x => inB p a x.1
 | .snd :: p, .pair _ b, x => inB p b x.2
 | .der :: p, .ptr t, x => inB p t x
 | .idx i :: p, .arr n t, x => i < n ∧ inB p t (List.getD x i t.dflt)
 | .elm i :: p, .sl t, x => i < List.length x ∧ inB p t (List.getD x i t.dflt)
 | [], _, _ => True
 | _, _, _ => False
theorem win_win {c : List Value} {o n i m : Nat} (h : i + m ≤ n) : win (win c o n) i m = win c (o + i) m := by
 simp only [win, List.drop_take, List.take_take, List.drop_drop]
 congr 1
 omega
theorem cellsAt_len {w : World} {n : Nat} {L : Loc} {c : List Value} (h : cellsAt w n L = some c) : c.length = n := by
 cases L with
 | reg d => simp only [cellsAt] at h; split at h <;> simp_all
 | mem b o =>
  simp only [cellsAt] at h
  split at h
  ·rename_i cs e fz _
   split at h
   ·rename_i hle
    simp at h; subst h
    exact win_len (by simpa using hle)
   ·simp at h
  ·simp at h
theorem cellsAt_sub {w : World} {n i m : Nat} {L : Loc} {c : List Value} (h : cellsAt w n L = some c) (hi : i + m ≤ n) : cellsAt w m (subL L i m) = some (win c i m) := by
 cases L with
 | reg d =>
  simp only [cellsAt] at h; split at h
  ·simp at h; subst h; rename_i hl
   simp only [subL, cellsAt]
   rw [if_pos (win_len (by omega))]
  ·simp at h
 | mem b o =>
  simp only [cellsAt, subL] at h ⊢
  split at h
  ·split at h
   ·rename_i hle
    simp at h; subst h
    rw [if_pos (by omega), win_win hi]
   ·simp at h
  ·simp at h
theorem l_base : ∀ {f : Fl}, f.l = f.base.l
 | .pin _ f => by simp only [Fl.l, Fl.base]; exact l_base
 | .sh | .gone | .own _ | .pr _ _ | .ar _ => rfl
theorem r_base : ∀ {f : Fl}, f.r = f.base.r
 | .pin _ f => by simp only [Fl.r, Fl.base]; exact r_base
 | .sh | .gone | .own _ | .pr _ _ | .ar _ => rfl
theorem e_base : ∀ {f : Fl}, f.e = f.base.e
 | .pin _ f => by simp only [Fl.e, Fl.base]; exact e_base
 | .sh | .gone | .own _ | .pr _ _ | .ar _ => rfl
theorem a_base : ∀ {f : Fl}, f.a = f.base.a
 | .pin _ f => by simp only [Fl.a, Fl.base]; exact a_base
 | .sh | .gone | .own _ | .pr _ _ | .ar _ => rfl
section
variable {S : Nat → Prop} {β : Key → Option Nat} {H : Nat → Option (List Value)} {w : World}
theorem VRel_gone {p : Key} {t : Ty} {x : t.D} {c : List Value} : VRel S β H w p t .gone x c ↔ c.length = t.size := by
 cases t <;> simp [VRel, Fl.base, Pins, Fl.pins, Ty.size]
theorem drop_win {c : List Value} {n m : Nat} (h : c.length = n + m) : c.drop n = win c n m := by
 simp only [win]; rw [List.take_of_length_le]; simp; omega
theorem take_win {c : List Value} {n : Nat} : c.take n = win c 0 n := by simp [win]
theorem VRel_parts {p : Key} {a b : Ty} {f : Fl} {x : (Ty.pair a b).D} {c : List Value} (h : VRel S β H w p (.pair a b) f x c) :
  VRel S β H w (p ++ [0]) a f.l x.1 (c.take a.size) ∧ VRel S β H w (p ++ [1]) b f.r x.2 (c.drop a.size) := by
 have hl := VRel_len h
 simp only [Ty.size] at hl
 have hg : VRel S β H w (p ++ [0]) a .gone x.1 (c.take a.size) ∧ VRel S β H w (p ++ [1]) b .gone x.2 (c.drop a.size) :=
  ⟨VRel_gone.2 (by simp; omega), VRel_gone.2 (by simp; omega)⟩
 rw [l_base, r_base]
 simp only [VRel] at h
 replace h := h.2
 cases hf : f.base with
 | pr g k => rw [hf] at h; exact h
 | sh => rw [hf] at h; simp only [Rd] at h; exact ⟨VRel_sh.2 h.1, VRel_sh.2 h.2⟩
 | gone => exact hg
 | own e => exact hg
 | ar e => exact hg
 | pin k e => exact absurd hf base_ne_pin
theorem VRel_mkpr {p : Key} {a b : Ty} {f g : Fl} {x : (Ty.pair a b).D} {c : List Value} :
  VRel S β H w p (.pair a b) (.mkpr f g) x c ↔ VRel S β H w (p ++ [0]) a f x.1 (c.take a.size) ∧ VRel S β H w (p ++ [1]) b g x.2 (c.drop a.size) := by
 unfold Fl.mkpr
 split
 ·rw [VRel_sh, VRel_sh, VRel_sh]; simp only [Rd]
 ·simp only [VRel, Fl.base, Pins, Fl.pins]; simp
theorem VRel_mkar {p : Key} {n : Nat} {t : Ty} {f : Fl} {x : (Ty.arr n t).D} {c : List Value} :
  VRel S β H w p (.arr n t) (.mkar f) x c ↔ List.length x = n ∧ c.length = n * t.size ∧ ∀ (i : Nat) (y : t.D), nth x i = some y → VRel S β H w (p ++ [i]) t f y (win c (i * t.size) t.size) := by
 unfold Fl.mkar
 split
 ·rw [VRel_sh]; simp only [Rd, VRel_sh]
 ·simp only [VRel, Fl.base, Pins, Fl.pins]; simp
theorem VRel_elems {p : Key} {n : Nat} {t : Ty} {f : Fl} {x : (Ty.arr n t).D} {c : List Value} (hw : f.a.base ≠ .gone) (h : VRel S β H w p (.arr n t) f x c) :
  List.length x = n ∧ c.length = n * t.size ∧ ∀ (i : Nat) (y : t.D), nth x i = some y → VRel S β H w (p ++ [i]) t f.a y (win c (i * t.size) t.size) := by
 rw [a_base] at hw ⊢
 simp only [VRel] at h
 replace h := h.2
 cases hf : f.base with
 | ar g => rw [hf] at h; exact h
 | sh => rw [hf] at h; simp only [Rd] at h; exact ⟨h.1, h.2.1, fun i y hy => VRel_sh.2 (h.2.2 i y hy)⟩
 | gone => rw [hf] at hw; simp [Fl.a, Fl.base] at hw
 | own e => rw [hf] at hw; simp [Fl.a, Fl.base] at hw
 | pr _ _ => rw [hf] at hw; simp [Fl.a, Fl.base] at hw
 | pin k e => exact absurd hf base_ne_pin
theorem VRel_der {p : Key} {t : Ty} {f : Fl} {x : (Ty.ptr t).D} {c : List Value} (hw : f.e.base ≠ .gone) (h : VRel S β H w p (.ptr t) f x c) :
  ∃ b cs, c = [.pointer (some ⟨b, 0, none⟩)] ∧ (S b ∨ β p = some b) ∧ Blk w b cs ∧ cs.size = t.size ∧ VRel S β H w (p ++ [0]) t f.e x cs.toList := by
 rw [e_base] at hw ⊢
 simp only [VRel] at h
 replace h := h.2
 cases hf : f.base with
 | own g => rw [hf] at h; obtain ⟨b, cs, e, hs, ho, hz, h⟩ := h; exact ⟨b, cs, e, .inr hs, ho.blk, hz, h⟩
 | sh => rw [hf] at h; simp only [Rd] at h; obtain ⟨b, cs, e, hs, ho, hz, h⟩ := h; exact ⟨b, cs, e, .inl hs, ho, hz, VRel_sh.2 h⟩
 | gone => rw [hf] at hw; simp [Fl.e, Fl.base] at hw
 | ar e => rw [hf] at hw; simp [Fl.e, Fl.base] at hw
 | pr _ _ => rw [hf] at hw; simp [Fl.e, Fl.base] at hw
 | pin k e => exact absurd hf base_ne_pin
theorem VRel_elm {p : Key} {t : Ty} {f : Fl} {x : (Ty.sl t).D} {c : List Value} (hw : f.e.base ≠ .gone) (h : VRel S β H w p (.sl t) f x c) {i : Nat} {y : t.D} (hy : nth x i = some y) :
  ∃ b o cs n cap, c = [.slice (some ⟨b, o, none⟩) n cap] ∧ i < n ∧ (S b ∨ β p = some b) ∧ Blk w b cs ∧ o + (i + 1) * t.size ≤ cs.size ∧ VRel S β H w (p ++ [i]) t f.e y (win cs.toList (o + i * t.size) t.size) := by
 have hi : i < List.length x := by
  unfold nth at hy
  exact (List.getElem?_eq_some_iff.1 hy).1
 have hne : ¬ (x = ([] : List t.D)) := fun e => by rw [e] at hi; simp at hi
 rw [e_base] at hw ⊢
 simp only [VRel] at h
 replace h := h.2
 cases hf : f.base with
 | own g =>
  rw [hf] at h
  obtain ⟨ad, cap, e, hl, h⟩ := h
  rcases h with h | ⟨b, o, cs, rfl, hs, ho, hz, h⟩
  ·exact absurd (nil_of_cap hl h) hne
  ·refine ⟨b, o, cs, _, cap, e, hi, .inr hs, ho.blk, ?_, h i y hy⟩
   have : (i + 1) * t.size ≤ cap * t.size := Nat.mul_le_mul_right t.size (Nat.le_trans hi hl)
   omega
 | sh =>
  rw [hf] at h; simp only [Rd] at h
  obtain ⟨ad, cap, e, hl, h⟩ := h
  rcases h with h | ⟨b, o, cs, rfl, hs, ho, hz, h⟩
  ·exact absurd h hne
  ·refine ⟨b, o, cs, _, cap, e, hi, .inl hs, ho, ?_, VRel_sh.2 (h i y hy)⟩
   have : (i + 1) * t.size ≤ List.length x * t.size := Nat.mul_le_mul_right t.size hi
   omega
 | gone => rw [hf] at hw; simp [Fl.e, Fl.base] at hw
 | ar e => rw [hf] at hw; simp [Fl.e, Fl.base] at hw
 | pr _ _ => rw [hf] at hw; simp [Fl.e, Fl.base] at hw
 | pin k e => exact absurd hf base_ne_pin
theorem getP_gone : ∀ {p : List PS} {t : Ty} {f : Fl} {x : t.D} {d : Dat}, f.base = .gone → getP p t f x = some d → d.f.base = .gone
 | [], _, _, _, _, hf, h => by simp only [getP, Option.some.injEq] at h; subst h; exact hf
 | .fst :: p, .pair a _, f, x, d, hf, h => by simp only [getP] at h; rw [l_base, hf] at h; exact getP_gone rfl h
 | .snd :: p, .pair a _, f, x, d, hf, h => by simp only [getP] at h; rw [r_base, hf] at h; exact getP_gone rfl h
 | .der :: p, .ptr _, f, x, d, hf, h => by simp only [getP] at h; rw [e_base, hf] at h; exact getP_gone rfl h
 | .idx i :: p, .arr _ _, f, x, d, hf, h => by simp only [getP] at h; rw [a_base, hf] at h; exact getP_gone rfl h
 | .elm i :: p, .sl _, f, x, d, hf, h => by simp only [getP] at h; rw [e_base, hf] at h; exact getP_gone rfl h
theorem getD_nth {α : Type} {x : List α} {i : Nat} {z : α} (h : i < x.length) : nth x i = some (x.getD i z) := by
 simp [nth, List.getD, h]
theorem cellsAt_mem {w : World} {b o n : Nat} {cs : Array Value} (h : Blk w b cs) (hz : o + n ≤ cs.size) : cellsAt w n (.mem b o) = some (win cs.toList o n) := by
 obtain ⟨e, fz, h⟩ := h
 simp only [cellsAt, h]
 rw [if_pos hz]
theorem walk_get2 {w' : World} (hS : ∀ b, S b → w'.heap[b]? = w.heap[b]?) : ∀ {p : List PS} {t : Ty} {f : Fl} {x : t.D} {d : Dat} {k : Key} {L : Loc} {c : List Value},
  (∀ s b, β (k ++ s) = some b → w'.heap[b]? = w.heap[b]?) →
  getP p t f x = some d → inB p t x → d.f.base ≠ .gone → cellsAt w t.size L = some c → cellsAt w' t.size L = some c → VRel S β H w k t f x c →
  ∃ L' c', walk w t L p = some (d.t, L') ∧ walk w' t L p = some (d.t, L') ∧ cellsAt w d.t.size L' = some c' ∧ cellsAt w' d.t.size L' = some c' ∧ VRel S β H w (k ++ keyP p) d.t d.f d.x c'
 | [], t, f, x, d, k, L, c, _, hg, _, _, hc, hcc, h => by
  simp only [getP, Option.some.injEq] at hg; subst hg
  exact ⟨L, c, rfl, rfl, hc, hcc, by simpa [keyP] using h⟩
 | .fst :: p, .pair a b, f, x, d, k, L, c, hk, hg, hb, hn, hc, hcc, h => by
  have h' := (VRel_parts h).1
  have hc' := cellsAt_sub (i := 0) (m := a.size) hc (by simp [Ty.size])
  have hcc' := cellsAt_sub (i := 0) (m := a.size) hcc (by simp [Ty.size])
  rw [take_win] at h'
  obtain ⟨L', c', h1, h2, h3, h4, h5⟩ := walk_get2 hS (fun s b hs => hk (0 :: s) b (by simpa using hs)) (by simpa [getP] using hg) (by simpa [inB] using hb) hn hc' hcc' h'
  exact ⟨L', c', by simpa [walk, stepL] using h1, by simpa [walk, stepL] using h2, h3, h4, by simpa [keyP] using h5⟩
 | .snd :: p, .pair a b, f, x, d, k, L, c, hk, hg, hb, hn, hc, hcc, h => by
  have h' := (VRel_parts h).2
  have hl := VRel_len h
  have hc' := cellsAt_sub (i := a.size) (m := b.size) hc (by simp [Ty.size])
  have hcc' := cellsAt_sub (i := a.size) (m := b.size) hcc (by simp [Ty.size])
  rw [drop_win (by simpa [Ty.size] using hl)] at h'
  obtain ⟨L', c', h1, h2, h3, h4, h5⟩ := walk_get2 hS (fun s b hs => hk (1 :: s) b (by simpa using hs)) (by simpa [getP] using hg) (by simpa [inB] using hb) hn hc' hcc' h'
  exact ⟨L', c', by simpa [walk, stepL] using h1, by simpa [walk, stepL] using h2, h3, h4, by simpa [keyP] using h5⟩
 | .der :: p, .ptr t, f, x, d, k, L, c, hk, hg, hb, hn, hc, hcc, h => by
  simp only [getP] at hg
  have hw : f.e.base ≠ .gone := fun e => hn (getP_gone e hg)
  obtain ⟨b, cs, rfl, hs, hB, hz, h'⟩ := VRel_der hw h
  have hsame : w'.heap[b]? = w.heap[b]? := hs.elim (hS b) (fun hs => hk [] b (by simpa using hs))
  have hc' := cellsAt_mem (o := 0) (n := t.size) hB (by omega)
  have hcc' := cellsAt_mem (o := 0) (n := t.size) (hB.same hsame) (by omega)
  have : win cs.toList 0 t.size = cs.toList := by rw [← hz, ← Array.length_toList]; exact win_all _
  rw [this] at hc' hcc'
  obtain ⟨L', c', h1, h2, h3, h4, h5⟩ := walk_get2 hS (fun s b hs => hk (0 :: s) b (by simpa using hs)) hg (by simpa [inB] using hb) hn hc' hcc' h'
  simp only [Ty.size] at hc hcc
  exact ⟨L', c', by simp only [walk, stepL, hc]; exact h1, by simp only [walk, stepL, hcc]; exact h2, h3, h4, by simpa [keyP] using h5⟩
 | .idx i :: p, .arr n t, f, x, d, k, L, c, hk, hg, hb, hn, hc, hcc, h => by
  simp only [getP] at hg
  simp only [inB] at hb
  have hw : f.a.base ≠ .gone := fun e => hn (getP_gone e hg)
  obtain ⟨hx, hcl, h'⟩ := VRel_elems hw h
  have hlt : (i + 1) * t.size ≤ n * t.size := Nat.mul_le_mul_right _ hb.1
  rw [Nat.add_mul] at hlt
  have hc' := cellsAt_sub (i := i * t.size) (m := t.size) hc (by simp only [Ty.size]; omega)
  have hcc' := cellsAt_sub (i := i * t.size) (m := t.size) hcc (by simp only [Ty.size]; omega)
  obtain ⟨L', c', h1, h2, h3, h4, h5⟩ := walk_get2 hS (fun s b hs => hk (i :: s) b (by simpa using hs)) hg hb.2 hn hc' hcc' (h' i _ (getD_nth (by omega)))
  exact ⟨L', c', by simp only [walk, stepL, hb.1, if_true]; exact h1, by simp only [walk, stepL, hb.1, if_true]; exact h2, h3, h4, by simpa [keyP] using h5⟩
 | .elm i :: p, .sl t, f, x, d, k, L, c, hk, hg, hb, hn, hc, hcc, h => by
  simp only [getP] at hg
  simp only [inB] at hb
  have hw : f.e.base ≠ .gone := fun e => hn (getP_gone e hg)
  obtain ⟨b, o, cs, m, cap, rfl, him, hs, hB, hz, h'⟩ := VRel_elm hw h (getD_nth (z := t.dflt) hb.1)
  have hsame : w'.heap[b]? = w.heap[b]? := hs.elim (hS b) (fun hs => hk [] b (by simpa using hs))
  rw [Nat.add_mul] at hz
  have hc' := cellsAt_mem (o := o + i * t.size) (n := t.size) hB (by omega)
  have hcc' := cellsAt_mem (o := o + i * t.size) (n := t.size) (hB.same hsame) (by omega)
  obtain ⟨L', c', h1, h2, h3, h4, h5⟩ := walk_get2 hS (fun s b hs => hk (i :: s) b (by simpa using hs)) hg hb.2 hn hc' hcc' h'
  simp only [Ty.size] at hc hcc
  exact ⟨L', c', by simp only [walk, stepL, hc, him, if_true]; exact h1, by simp only [walk, stepL, hcc, him, if_true]; exact h2, h3, h4, by simpa [keyP] using h5⟩
theorem walk_get {p : List PS} {t : Ty} {f : Fl} {x : t.D} {d : Dat} {k : Key} {L : Loc} {c : List Value}
  (hg : getP p t f x = some d) (hb : inB p t x) (hn : d.f.base ≠ .gone) (hc : cellsAt w t.size L = some c) (h : VRel S β H w k t f x c) :
  ∃ L' c', walk w t L p = some (d.t, L') ∧ cellsAt w d.t.size L' = some c' ∧ VRel S β H w (k ++ keyP p) d.t d.f d.x c' := by
 obtain ⟨L', c', h1, _, h3, _, h5⟩ := walk_get2 (w' := w) (fun _ _ => rfl) (fun _ _ _ => rfl) hg hb hn hc hc h
 exact ⟨L', c', h1, h3, h5⟩
end
end Go.Rf

end
section
namespace Go.Rf
def splice (c : List Value) (o : Nat) (d : List Value) : List Value := c.take o ++ d ++ c.drop (o + d.length)
theorem splice_len {c d : List Value} {o : Nat} (h : o + d.length ≤ c.length) : (splice c o d).length = c.length := by
 simp [splice]; omega
theorem splice_get {c d : List Value} {o : Nat} (h : o + d.length ≤ c.length) (i : Nat) :
  (splice c o d)[i]? = if i < o then c[i]? else if i < o + d.length then d[i - o]? else c[i]? := by
 unfold splice
 rw [List.append_assoc, List.getElem?_append]
 simp only [List.length_take]
 rw [Nat.min_eq_left (by omega)]
 split
 ·rename_i hi; rw [List.getElem?_take_of_lt hi]
 ·rename_i hi
  rw [List.getElem?_append]
  split
  ·rename_i h2; rw [if_pos (by omega)]
  ·rename_i h2
   rw [if_neg (by omega), List.getElem?_drop]
   congr 1
   omega
theorem win_get {c : List Value} {o n i : Nat} : (win c o n)[i]? = if i < n then c[o + i]? else none := by
 unfold win
 by_cases h : i < n
 ·rw [if_pos h, List.getElem?_take_of_lt h, List.getElem?_drop]
 ·rw [if_neg h, List.getElem?_take_eq_none (by omega)]
theorem win_splice_out {c d : List Value} {o o' n : Nat} (h : o + d.length ≤ c.length) (hd : o' + n ≤ o ∨ o + d.length ≤ o') :
  win (splice c o d) o' n = win c o' n := by
 apply List.ext_getElem?
 intro i
 rw [win_get, win_get]
 split
 ·rw [splice_get h]
  rcases hd with hd | hd
  ·rw [if_pos (by omega)]
  ·rw [if_neg (by omega), if_neg (by omega)]
 ·rfl
theorem win_splice_in {c d : List Value} {o : Nat} (h : o + d.length ≤ c.length) : win (splice c o d) o d.length = d := by
 apply List.ext_getElem?
 intro i
 rw [win_get]
 split
 ·rw [splice_get h, if_neg (by omega), if_pos (by omega)]; congr 1; omega
 ·rw [List.getElem?_eq_none (by omega)]
structure Chg (w w' : World) (b₀ o₀ : Nat) (cd : List Value) : Prop where
 other : ∀ b, b ≠ b₀ → w'.heap[b]? = w.heap[b]?
 this : ∃ cs e fz cs', w.heap[b₀]? = some (.cells cs e fz) ∧ w'.heap[b₀]? = some (.cells cs' e fz) ∧ cs'.toList = splice cs.toList o₀ cd ∧ o₀ + cd.length ≤ cs.size
 out : SameOut w w'
theorem Chg.size {w w' : World} {b₀ o₀ : Nat} {cd : List Value} {q : Bool} (h : Chg w w' b₀ o₀ cd) {cs : Array Value} (hb : OBlk q w b₀ cs) :
  ∃ cs', OBlk q w' b₀ cs' ∧ cs'.size = cs.size ∧ cs'.toList = splice cs.toList o₀ cd ∧ o₀ + cd.length ≤ cs.size := by
 obtain ⟨cs1, e, fz, cs', h1, h2, h3, h4⟩ := h.this
 obtain ⟨e2, fz2, hb, hf⟩ := hb
 rw [h1] at hb
 simp only [Option.some.injEq, Obj.cells.injEq] at hb
 obtain ⟨rfl, rfl, rfl⟩ := hb
 have hs : cs'.size = cs1.size := by
  have := congrArg List.length h3
  rw [splice_len (by simpa using h4)] at this
  simpa using this
 exact ⟨cs', ⟨e, fz, h2, by rw [hs]; exact hf.1, hf.2⟩, hs, h3, h4⟩
def ownKey : Key → Key → List PS → Key
 | _, ko, [] => ko
 | k, ko, .fst :: p => ownKey (k ++ [0]) ko p
 | k, ko, .snd :: p => ownKey (k ++ [1]) ko p
 | k, ko, .idx i :: p => ownKey (k ++ [i]) ko p
 | k, _, .der :: p => ownKey (k ++ [0]) k p
 | k, _, .elm i :: p => ownKey (k ++ [i]) k p
theorem ownKey_form : ∀ {p : List PS} {k ko : Key}, ownKey k ko p = ko ∨ ∃ s, ownKey k ko p = k ++ s
 | [], _, _ => .inl rfl
 | .fst :: p, k, ko => by simp only [ownKey]; rcases ownKey_form (p := p) (k := k ++ [0]) (ko := ko) with h | ⟨s, h⟩; exact .inl h; exact .inr ⟨0 :: s, by simpa using h⟩
 | .snd :: p, k, ko => by simp only [ownKey]; rcases ownKey_form (p := p) (k := k ++ [1]) (ko := ko) with h | ⟨s, h⟩; exact .inl h; exact .inr ⟨1 :: s, by simpa using h⟩
 | .idx i :: p, k, ko => by simp only [ownKey]; rcases ownKey_form (p := p) (k := k ++ [i]) (ko := ko) with h | ⟨s, h⟩; exact .inl h; exact .inr ⟨i :: s, by simpa using h⟩
 | .der :: p, k, ko => by simp only [ownKey]; rcases ownKey_form (p := p) (k := k ++ [0]) (ko := k) with h | ⟨s, h⟩; exact .inr ⟨[], by simpa using h⟩; exact .inr ⟨0 :: s, by simpa using h⟩
 | .elm i :: p, k, ko => by simp only [ownKey]; rcases ownKey_form (p := p) (k := k ++ [i]) (ko := k) with h | ⟨s, h⟩; exact .inr ⟨[], by simpa using h⟩; exact .inr ⟨i :: s, by simpa using h⟩
theorem ownKey_flat : ∀ {p : List PS} {k ko : Key}, jumps p = false → ownKey k ko p = ko
 | [], _, _, _ => rfl
 | .fst :: p, k, ko, h | .snd :: p, k, ko, h | .idx _ :: p, k, ko, h => by
  simp only [jumps, PS.jumps, Bool.false_or] at h; simp only [ownKey]; exact ownKey_flat h
 | .der :: p, _, _, h | .elm _ :: p, _, _, h => by simp [jumps, PS.jumps] at h
theorem ownKey_jump : ∀ {p : List PS} {k ko : Key}, jumps p = true → ∃ s, ownKey k ko p = k ++ s
 | [], _, _, h => by simp [jumps] at h
 | .fst :: p, k, ko, h => by
  simp only [jumps, PS.jumps, Bool.false_or] at h; simp only [ownKey]
  obtain ⟨s, hs⟩ := ownKey_jump (k := k ++ [0]) (ko := ko) h; exact ⟨0 :: s, by simpa using hs⟩
 | .snd :: p, k, ko, h => by
  simp only [jumps, PS.jumps, Bool.false_or] at h; simp only [ownKey]
  obtain ⟨s, hs⟩ := ownKey_jump (k := k ++ [1]) (ko := ko) h; exact ⟨1 :: s, by simpa using hs⟩
 | .idx i :: p, k, ko, h => by
  simp only [jumps, PS.jumps, Bool.false_or] at h; simp only [ownKey]
  obtain ⟨s, hs⟩ := ownKey_jump (k := k ++ [i]) (ko := ko) h; exact ⟨i :: s, by simpa using hs⟩
 | .der :: p, k, ko, _ => by
  simp only [ownKey]
  rcases ownKey_form (p := p) (k := k ++ [0]) (ko := k) with h | ⟨s, h⟩
  ·exact ⟨[], by simpa using h⟩
  ·exact ⟨0 :: s, by simpa using h⟩
 | .elm i :: p, k, ko, _ => by
  simp only [ownKey]
  rcases ownKey_form (p := p) (k := k ++ [i]) (ko := k) with h | ⟨s, h⟩
  ·exact ⟨[], by simpa using h⟩
  ·exact ⟨i :: s, by simpa using h⟩
theorem walk_flat {w : World} : ∀ {p : List PS} {t t' : Ty} {L L' : Loc}, jumps p = false → walk w t L p = some (t', L') →
  match L with
  | .reg _ => ∃ c, L' = .reg c
  | .mem b o => ∃ o', L' = .mem b o' ∧ o ≤ o' ∧ o' + t'.size ≤ o + t.size
 | [], t, t', L, L', _, h => by
  simp only [walk, Option.some.injEq, Prod.mk.injEq] at h
  obtain ⟨rfl, rfl⟩ := h
  cases L
  ·exact ⟨_, rfl⟩
  ·exact ⟨_, rfl, Nat.le_refl _, Nat.le_refl _⟩
 | .der :: p, _, _, _, _, h, _ | .elm _ :: p, _, _, _, _, h, _ => by simp [jumps, PS.jumps] at h
 | .fst :: p, .pair a b, t', L, L', hj, h => by
  simp only [jumps, PS.jumps, Bool.false_or] at hj
  simp only [walk, stepL] at h
  have := walk_flat hj h
  cases L with
  | reg c => simpa [subL] using this
  | mem bl o => simp only [subL] at this; obtain ⟨o', e, h1, h2⟩ := this; exact ⟨o', e, by omega, by simp only [Ty.size]; omega⟩
 | .snd :: p, .pair a b, t', L, L', hj, h => by
  simp only [jumps, PS.jumps, Bool.false_or] at hj
  simp only [walk, stepL] at h
  have := walk_flat hj h
  cases L with
  | reg c => simpa [subL] using this
  | mem bl o => simp only [subL] at this; obtain ⟨o', e, h1, h2⟩ := this; exact ⟨o', e, by omega, by simp only [Ty.size]; omega⟩
 | .idx i :: p, .arr n t, t', L, L', hj, h => by
  simp only [jumps, PS.jumps, Bool.false_or] at hj
  simp only [walk, stepL] at h
  by_cases hi : i < n
  ·simp only [hi, if_true] at h
   have := walk_flat hj h
   have hm : (i + 1) * t.size ≤ n * t.size := Nat.mul_le_mul_right _ hi
   rw [Nat.add_mul] at hm
   cases L with
   | reg c => simpa [subL] using this
   | mem bl o => simp only [subL] at this; obtain ⟨o', e, h1, h2⟩ := this; exact ⟨o', e, by omega, by simp only [Ty.size]; omega⟩
  ·simp [hi] at h
 | .fst :: p, .int _, _, _, _, _, h | .fst :: p, .bool, _, _, _, _, h | .fst :: p, .str, _, _, _, _, h | .fst :: p, .fn, _, _, _, _, h | .fst :: p, .unit, _, _, _, _, h
 | .fst :: p, .sl _, _, _, _, _, h | .fst :: p, .ptr _, _, _, _, _, h | .fst :: p, .arr _ _, _, _, _, _, h
 | .snd :: p, .int _, _, _, _, _, h | .snd :: p, .bool, _, _, _, _, h | .snd :: p, .str, _, _, _, _, h | .snd :: p, .fn, _, _, _, _, h | .snd :: p, .unit, _, _, _, _, h
 | .snd :: p, .sl _, _, _, _, _, h | .snd :: p, .ptr _, _, _, _, _, h | .snd :: p, .arr _ _, _, _, _, _, h
 | .idx _ :: p, .int _, _, _, _, _, h | .idx _ :: p, .bool, _, _, _, _, h | .idx _ :: p, .str, _, _, _, _, h | .idx _ :: p, .fn, _, _, _, _, h | .idx _ :: p, .unit, _, _, _, _, h
 | .idx _ :: p, .sl _, _, _, _, _, h | .idx _ :: p, .ptr _, _, _, _, _, h | .idx _ :: p, .pair _ _, _, _, _, _, h => by simp [walk, stepL] at h
section
variable {S : Nat → Prop} {β β' : Key → Option Nat} {H : Nat → Option (List Value)} {w w' : World}
theorem castD_some {a b : Ty} {x : a.D} {y : b.D} (h : castD a b x = some y) : ∃ e : a = b, y = e ▸ x := by
 unfold castD at h
 split at h
 ·rename_i e; simp at h; exact ⟨e, h.symm⟩
 ·simp at h
theorem pre_ne {k : Key} {i j : Nat} {s u : Key} (h : i ≠ j) : ¬ (k ++ i :: u) <+: (k ++ j :: s) := by
 rw [List.prefix_append_right_inj]
 simp [List.cons_prefix_cons, h]
theorem nth_set {α : Type} {x : List α} {i j : Nat} {y z : α} (h : nth (x.set i y) j = some z) : (j = i ∧ i < x.length ∧ z = y) ∨ (j ≠ i ∧ nth x j = some z) := by
 unfold nth at h ⊢
 rw [List.getElem?_set] at h
 split at h
 ·rename_i e
  split at h
  ·rename_i hl
   simp at h; exact .inl ⟨e.symm, hl, h.symm⟩
  ·simp at h
 ·rename_i e; exact .inr ⟨fun e' => e e'.symm, h⟩
theorem Pins_keep {p : List PS} {f g : Fl} {c : List Value} (h : Pins H f c) (hg : Pins H g c) (hj : jumps p = true) : Pins H (Fl.keep p f g) c := by
 unfold Fl.keep
 split
 ·rename_i k f'
  rw [if_pos hj]
  cases g with
  | pin j e => exact hg
  | _ => intro i hi; simp only [Fl.mkpin, Fl.pins, List.mem_cons, List.not_mem_nil, or_false] at hi; subst hi; exact h i (by simp [Fl.pins])
 ·exact hg
theorem keep_flat {p : List PS} {f g : Fl} (hj : jumps p = false) : Fl.keep p f g = g := by
 unfold Fl.keep
 split
 ·rw [if_neg (by simp [hj])]
 ·rfl
theorem VRel_keep {k : Key} {t : Ty} {p : List PS} {f g : Fl} {x : t.D} {c : List Value} (hp : jumps p = true → Pins H f c) (h : VRel S β H w k t g x c) : VRel S β H w k t (Fl.keep p f g) x c := by
 cases hj : jumps p with
 | false => rw [keep_flat hj]; exact h
 | true =>
  have hb : (Fl.keep p f g).base = g.base := by
   unfold Fl.keep
   split
   ·rw [if_pos hj]; cases g <;> rfl
   ·rfl
  cases t <;> simp only [VRel] at h ⊢ <;> rw [hb] <;> exact ⟨Pins_keep (hp hj) h.1 hj, h.2⟩
theorem VRel_pins {k : Key} {t : Ty} {f : Fl} {x : t.D} {c : List Value} (h : VRel S β H w k t f x c) : Pins H f c := by
 cases t <;> simp only [VRel] at h <;> exact h.1
theorem cellsAt_inv {b o n : Nat} {c : List Value} {cs : Array Value} (h : cellsAt w n (.mem b o) = some c) (hB : Blk w b cs) : c = win cs.toList o n ∧ o + n ≤ cs.size := by
 obtain ⟨e, fz, hB⟩ := hB
 simp only [cellsAt, hB] at h
 split at h
 ·rename_i hle; simp at h; exact ⟨h.symm, hle⟩
 ·simp at h
theorem cellsAt_reg {n : Nat} {c cr : List Value} (h : cellsAt w n (.reg cr) = some c) : c = cr ∧ cr.length = n := by
 simp only [cellsAt] at h
 split at h
 ·rename_i hl; simp at h; exact ⟨h.symm, hl⟩
 ·simp at h
theorem VRel_aside {b₀ o₀ : Nat} {cd : List Value} {k q ko : Key} {t : Ty} {f : Fl} {x : t.D} {c : List Value} (hS : ¬ S b₀) (hchg : Chg w w' b₀ o₀ cd)
  (hne : ∀ s, ko ≠ k ++ s) (h0 : ∀ key, β key = some b₀ → key = ko) (hβ : ∀ s, β' (k ++ s) = β (k ++ s))
  (h : VRel S β H w k t f x c) (_ : q = q) : VRel S β' H w' k t f x c :=
 VRel_trans (fun b hb => ⟨hb, hchg.other b (fun e => hS (e ▸ hb))⟩) (fun s bl hb => ⟨by rw [hβ]; exact hb, hchg.other bl (fun e => by
  subst e; exact hne s (h0 _ hb).symm)⟩) h
theorem walk_set : ∀ {p : List PS} {t : Ty} {f : Fl} {x : t.D} {d : Dat} {f2 : Fl} {x2 : t.D} {k ko : Key} {L : Loc} {c cd : List Value} {t' : Ty} {b₀ o₀ : Nat},
  modP p t f x d = some (f2, x2) → inB p t x → cellsAt w t.size L = some c → VRel S β H w k t f x c →
  walk w t L p = some (t', .mem b₀ o₀) → t'.size = d.t.size →
  (∀ b o, L = .mem b o → β ko = some b ∧ ∃ q cs, OBlk q w b cs) → ko.length < k.length →
  (∀ key, ¬ (k ++ keyP p) <+: key → β' key = β key) →
  (∀ key, β key = some b₀ → key = ownKey k ko p) → (∀ key, β' key = some b₀ → key = ownKey k ko p) → ¬ S b₀ →
  Chg w w' b₀ o₀ cd → VRel S β' H w (k ++ keyP p) d.t d.f d.x cd →
  ∃ c2, cellsAt w' t.size L = some c2 ∧ (jumps p = true → c2 = c) ∧ VRel S β' H w' k t f2 x2 c2
 | [], t, f, x, d, f2, x2, k, ko, L, c, cd, t', b₀, o₀, hm, _, hc, hv, hw, hsz, hL, hko, hβ, h0, h0', hS, hchg, hd => by
  simp only [modP] at hm
  cases hcast : castD d.t t d.x with
  | none => simp [hcast] at hm
  | some y =>
   simp only [hcast, Option.map_some, Option.some.injEq, Prod.mk.injEq] at hm
   obtain ⟨rfl, rfl⟩ := hm
   obtain ⟨rfl, rfl⟩ := castD_some hcast
   simp only [walk, Option.some.injEq, Prod.mk.injEq] at hw
   obtain ⟨rfl, rfl⟩ := hw
   have hl := VRel_len hd
   obtain ⟨hk, q0, cs, hB⟩ := hL _ _ rfl
   obtain ⟨cs', hB', hz, hcs, hle⟩ := hchg.size hB
   refine ⟨cd, ?_, by simp [jumps], ?_⟩
   ·rw [cellsAt_mem hB'.blk (by rw [hz, ← hl]; exact hle), hcs, ← hl, win_splice_in (by simpa using hle)]
   ·simp only [keyP, List.append_nil] at hd
    refine VRel_trans (fun b hb => ⟨hb, hchg.other b (fun e => hS (e ▸ hb))⟩) (fun s b hb => ⟨hb, hchg.other b (fun e => ?_)⟩) hd
    subst e
    have := h0' _ hb
    simp only [ownKey] at this
    have := congrArg List.length this
    simp at this
    omega
 | .fst :: p, .pair a b, f, x, d, f2, x2, k, ko, L, c, cd, t', b₀, o₀, hm, hi, hc, hv, hw, hsz, hL, hko, hβ, h0, h0', hS, hchg, hd => by
  simp only [modP] at hm
  cases hm' : modP p a f.l x.1 d with
  | none => simp [hm'] at hm
  | some y =>
   simp only [hm', Option.map_some, Option.some.injEq, Prod.mk.injEq] at hm
   obtain ⟨rfl, rfl⟩ := hm
   have hparts := VRel_parts hv
   have hlen := cellsAt_len hc
   simp only [Ty.size] at hlen
   have hc' := cellsAt_sub (i := 0) (m := a.size) hc (by simp [Ty.size])
   have hv1 := hparts.1
   rw [take_win] at hv1
   simp only [walk, stepL] at hw
   have hL' : ∀ bl o, subL L 0 a.size = .mem bl o → β ko = some bl ∧ ∃ q cs, OBlk q w bl cs := fun bl o e => by
    cases L with
    | reg _ => simp [subL] at e
    | mem b2 o2 => simp only [subL, Loc.mem.injEq] at e; rw [← e.1]; exact hL _ _ rfl
   have hkey : (k ++ [0]) ++ keyP p = k ++ keyP (.fst :: p) := by simp [keyP]
   obtain ⟨c2, g1, g2, g3⟩ := walk_set (k := k ++ [0]) (ko := ko) hm' (by simpa [inB] using hi) hc' hv1 hw hsz hL' (by simp; omega) (by rw [hkey]; exact hβ)
    (by simpa [ownKey] using h0) (by simpa [ownKey] using h0') hS hchg (by rw [hkey]; exact hd)
   have hside : VRel S β' H w' (k ++ [1]) b f.r x.2 (c.drop a.size) := by
    refine VRel_trans (fun b hb => ⟨hb, hchg.other b (fun e => hS (e ▸ hb))⟩) (fun s bl hb => ?_) hparts.2
    have hnot : ¬ (k ++ keyP (.fst :: p)) <+: (k ++ [1] ++ s) := by
     simp only [keyP, List.append_assoc, List.cons_append, List.nil_append]; exact pre_ne (by decide)
    refine ⟨by rw [hβ _ hnot]; exact hb, hchg.other bl (fun e => ?_)⟩
    subst e
    have hk0 := h0 _ hb
    simp only [ownKey] at hk0
    rcases ownKey_form (p := p) (k := k ++ [0]) (ko := ko) with he | ⟨u, he⟩
    ·rw [he] at hk0
     have := congrArg List.length hk0
     simp at this; omega
    ·rw [he] at hk0
     simp at hk0
   cases L with
   | reg cr =>
    simp only [cellsAt] at hc
    have hcr : cr.length = (Ty.pair a b).size ∧ c = cr := by
     split at hc
     ·rename_i hl; simp at hc; exact ⟨hl, hc.symm⟩
     ·simp at hc
    obtain ⟨hcl, rfl⟩ := hcr
    have hj : jumps p = true := by
     cases hj : jumps p with
     | true => rfl
     | false => have := walk_flat hj hw; simp [subL] at this
    have e2 := g2 hj
    refine ⟨c, by simp [cellsAt, hcl], fun _ => rfl, ?_⟩
    refine VRel_keep (fun _ => VRel_pins hv) (VRel_mkpr.2 ⟨?_, hside⟩)
    rw [take_win, ← e2]; exact g3
   | mem bl ol =>
    obtain ⟨hk, q0, cs, hB⟩ := hL _ _ rfl
    have hcw : c = win cs.toList ol (a.size + b.size) ∧ ol + (a.size + b.size) ≤ cs.size := cellsAt_inv hc hB.blk
    cases hj : jumps p with
    | true =>
     have hne : bl ≠ b₀ := fun e => by
      subst e
      have := h0 _ hk
      simp only [ownKey] at this
      obtain ⟨s, hs⟩ := ownKey_jump (k := k ++ [0]) (ko := ko) hj
      rw [hs] at this
      have := congrArg List.length this
      simp at this; omega
     have hB' := hB.same (hchg.other bl hne)
     have e2 := g2 hj
     refine ⟨c, ?_, fun _ => rfl, ?_⟩
     ·rw [cellsAt_mem hB'.blk (by simp only [Ty.size]; exact hcw.2), hcw.1]; rfl
     ·refine VRel_keep (fun _ => VRel_pins hv) (VRel_mkpr.2 ⟨?_, hside⟩)
      rw [take_win, ← e2]; exact g3
    | false =>
     have hfl := walk_flat hj hw
     simp only [subL] at hfl
     obtain ⟨o', e, ho1, ho2⟩ := hfl
     simp only [Loc.mem.injEq] at e
     obtain ⟨rfl, rfl⟩ := e
     have hdl := VRel_len hd
     obtain ⟨cs', hB', hz, hcs, hle⟩ := hchg.size hB
     refine ⟨win cs'.toList ol (a.size + b.size), ?_, by simp [jumps, PS.jumps, hj], ?_⟩
     ·rw [cellsAt_mem hB'.blk (by simp only [Ty.size]; omega)]; rfl
     ·refine VRel_keep (by simp [hj]) (VRel_mkpr.2 ⟨?_, ?_⟩)
      ·rw [take_win, win_win (by omega)]
       simp only [subL] at g1
       rw [cellsAt_mem hB'.blk (by omega)] at g1
       simp only [Option.some.injEq] at g1
       rw [g1]; exact g3
      ·have : (win cs'.toList ol (a.size + b.size)).drop a.size = c.drop a.size := by
        rw [hcw.1, drop_win (m := b.size) (win_len (by simp; omega)), drop_win (m := b.size) (win_len (by simp; omega)), win_win (by omega), win_win (by omega), hcs]
        exact win_splice_out (by simpa using hle) (.inr (by omega))
       rw [this]; exact hside
 | .snd :: p, .pair a b, f, x, d, f2, x2, k, ko, L, c, cd, t', b₀, o₀, hm, hi, hc, hv, hw, hsz, hL, hko, hβ, h0, h0', hS, hchg, hd => by
  simp only [modP] at hm
  cases hm' : modP p b f.r x.2 d with
  | none => simp [hm'] at hm
  | some y =>
   simp only [hm', Option.map_some, Option.some.injEq, Prod.mk.injEq] at hm
   obtain ⟨rfl, rfl⟩ := hm
   have hparts := VRel_parts hv
   have hlen := cellsAt_len hc
   simp only [Ty.size] at hlen
   have hc' := cellsAt_sub (i := a.size) (m := b.size) hc (by simp [Ty.size])
   have hv1 := hparts.2
   rw [drop_win hlen] at hv1
   simp only [walk, stepL] at hw
   have hL' : ∀ bl o, subL L a.size b.size = .mem bl o → β ko = some bl ∧ ∃ q cs, OBlk q w bl cs := fun bl o e => by
    cases L with
    | reg _ => simp [subL] at e
    | mem b2 o2 => simp only [subL, Loc.mem.injEq] at e; rw [← e.1]; exact hL _ _ rfl
   have hkey : (k ++ [1]) ++ keyP p = k ++ keyP (.snd :: p) := by simp [keyP]
   obtain ⟨c2, g1, g2, g3⟩ := walk_set (k := k ++ [1]) (ko := ko) hm' (by simpa [inB] using hi) hc' hv1 hw hsz hL' (by simp; omega) (by rw [hkey]; exact hβ)
    (by simpa [ownKey] using h0) (by simpa [ownKey] using h0') hS hchg (by rw [hkey]; exact hd)
   have hside : VRel S β' H w' (k ++ [0]) a f.l x.1 (c.take a.size) := by
    refine VRel_trans (fun b hb => ⟨hb, hchg.other b (fun e => hS (e ▸ hb))⟩) (fun s bl hb => ?_) hparts.1
    have hnot : ¬ (k ++ keyP (.snd :: p)) <+: (k ++ [0] ++ s) := by
     simp only [keyP, List.append_assoc, List.cons_append, List.nil_append]; exact pre_ne (by decide)
    refine ⟨by rw [hβ _ hnot]; exact hb, hchg.other bl (fun e => ?_)⟩
    subst e
    have hk0 := h0 _ hb
    simp only [ownKey] at hk0
    rcases ownKey_form (p := p) (k := k ++ [1]) (ko := ko) with he | ⟨u, he⟩
    ·rw [he] at hk0
     have := congrArg List.length hk0
     simp at this; omega
    ·rw [he] at hk0
     simp at hk0
   cases L with
   | reg cr =>
    simp only [cellsAt] at hc
    have hcr : cr.length = (Ty.pair a b).size ∧ c = cr := by
     split at hc
     ·rename_i hl; simp at hc; exact ⟨hl, hc.symm⟩
     ·simp at hc
    obtain ⟨hcl, rfl⟩ := hcr
    have hj : jumps p = true := by
     cases hj : jumps p with
     | true => rfl
     | false => have := walk_flat hj hw; simp [subL] at this
    have e2 := g2 hj
    refine ⟨c, by simp [cellsAt, hcl], fun _ => rfl, ?_⟩
    refine VRel_keep (fun _ => VRel_pins hv) (VRel_mkpr.2 ⟨hside, ?_⟩)
    rw [drop_win hlen, ← e2]; exact g3
   | mem bl ol =>
    obtain ⟨hk, q0, cs, hB⟩ := hL _ _ rfl
    have hcw : c = win cs.toList ol (a.size + b.size) ∧ ol + (a.size + b.size) ≤ cs.size := cellsAt_inv hc hB.blk
    cases hj : jumps p with
    | true =>
     have hne : bl ≠ b₀ := fun e => by
      subst e
      have := h0 _ hk
      simp only [ownKey] at this
      obtain ⟨s, hs⟩ := ownKey_jump (k := k ++ [1]) (ko := ko) hj
      rw [hs] at this
      have := congrArg List.length this
      simp at this; omega
     have hB' := hB.same (hchg.other bl hne)
     have e2 := g2 hj
     refine ⟨c, ?_, fun _ => rfl, ?_⟩
     ·rw [cellsAt_mem hB'.blk (by simp only [Ty.size]; exact hcw.2), hcw.1]; rfl
     ·refine VRel_keep (fun _ => VRel_pins hv) (VRel_mkpr.2 ⟨hside, ?_⟩)
      rw [drop_win hlen, ← e2]; exact g3
    | false =>
     have hfl := walk_flat hj hw
     simp only [subL] at hfl
     obtain ⟨o', e, ho1, ho2⟩ := hfl
     simp only [Loc.mem.injEq] at e
     obtain ⟨rfl, rfl⟩ := e
     have hdl := VRel_len hd
     obtain ⟨cs', hB', hz, hcs, hle⟩ := hchg.size hB
     refine ⟨win cs'.toList ol (a.size + b.size), ?_, by simp [jumps, PS.jumps, hj], ?_⟩
     ·rw [cellsAt_mem hB'.blk (by simp only [Ty.size]; omega)]; rfl
     ·refine VRel_keep (by simp [hj]) (VRel_mkpr.2 ⟨?_, ?_⟩)
      ·have : (win cs'.toList ol (a.size + b.size)).take a.size = c.take a.size := by
        rw [hcw.1, take_win, take_win, win_win (by omega), win_win (by omega), hcs]
        exact win_splice_out (by simpa using hle) (.inl (by omega))
       rw [this]; exact hside
      ·rw [drop_win (m := b.size) (win_len (by simp; omega)), win_win (by omega)]
       simp only [subL] at g1
       rw [cellsAt_mem hB'.blk (by omega)] at g1
       simp only [Option.some.injEq] at g1
       rw [g1]; exact g3
 | .idx i :: p, .arr n t, f, x, d, f2, x2, k, ko, L, c, cd, t', b₀, o₀, hm, hi, hc, hv, hw, hsz, hL, hko, hβ, h0, h0', hS, hchg, hd => by
  simp only [modP] at hm
  simp only [inB] at hi
  obtain ⟨hi, hi'⟩ := hi
  cases hm' : modP p t f.a (List.getD x i t.dflt) d with
  | none => simp [hm'] at hm
  | some y =>
   simp only [hm', Option.bind_some] at hm
   split at hm
   ·rename_i hwh
    simp only [Bool.and_eq_true, decide_eq_true_eq] at hwh
    obtain ⟨hwh, hye⟩ := hwh
    simp only [Option.some.injEq, Prod.mk.injEq] at hm
    obtain ⟨rfl, rfl⟩ := hm
    have hne : f.a.base ≠ .gone := fun e => by have := base_whole hwh; rw [e] at this; simp [Fl.whole] at this
    obtain ⟨hx, hcl, hel⟩ := VRel_elems hne hv
    have hmul : (i + 1) * t.size ≤ n * t.size := Nat.mul_le_mul_right _ hi
    rw [Nat.add_mul] at hmul
    have hc' := cellsAt_sub (i := i * t.size) (m := t.size) hc (by simp only [Ty.size]; omega)
    have hv1 := hel i _ (getD_nth (z := t.dflt) (by omega))
    simp only [walk, stepL, hi, if_true] at hw
    have hL' : ∀ bl o, subL L (i * t.size) t.size = .mem bl o → β ko = some bl ∧ ∃ q cs, OBlk q w bl cs := fun bl o e => by
     cases L with
     | reg _ => simp [subL] at e
     | mem b2 o2 => simp only [subL, Loc.mem.injEq] at e; rw [← e.1]; exact hL _ _ rfl
    have hkey : (k ++ [i]) ++ keyP p = k ++ keyP (.idx i :: p) := by simp [keyP]
    obtain ⟨c2, g1, g2, g3⟩ := walk_set (k := k ++ [i]) (ko := ko) hm' hi' hc' hv1 hw hsz hL' (by simp; omega) (by rw [hkey]; exact hβ)
     (by simpa [ownKey] using h0) (by simpa [ownKey] using h0') hS hchg (by rw [hkey]; exact hd)
    have hko2 : ∀ j s, j ≠ i → ownKey k ko (.idx i :: p) ≠ k ++ [j] ++ s := fun j s hj e => by
     simp only [ownKey] at e
     rcases ownKey_form (p := p) (k := k ++ [i]) (ko := ko) with he | ⟨u, he⟩
     ·rw [he] at e; have := congrArg List.length e; simp at this; omega
     ·rw [he] at e; simp at e; exact hj e.1.symm
    have hside : ∀ j z, j ≠ i → nth x j = some z → VRel S β' H w' (k ++ [j]) t f.a z (win c (j * t.size) t.size) := fun j z hj hz =>
     VRel_aside (q := []) hS hchg (fun s => hko2 j s hj) h0 (fun s => hβ _ (by simp only [keyP, List.append_assoc, List.cons_append, List.nil_append]; exact pre_ne (fun e => hj e.symm))) (hel j z hz) rfl
    have hset : ∀ (c' : List Value), c'.length = n * t.size → win c' (i * t.size) t.size = c2 → (∀ j, j ≠ i → j < n → win c' (j * t.size) t.size = win c (j * t.size) t.size) →
      VRel S β' H w' k (.arr n t) (.mkar f.a) (List.set x i y.2) c' := fun c' hl' h1 h2 => by
     refine VRel_mkar.2 ⟨(List.length_set (as := (x : List t.D))).trans hx, hl', fun j z hz => ?_⟩
     rcases nth_set hz with ⟨rfl, _, rfl⟩ | ⟨hj, hz⟩
     ·rw [h1, ← hye]; exact g3
     ·rw [h2 j hj (by have := (List.getElem?_eq_some_iff.1 hz).1; omega)]; exact hside j z hj hz
    cases L with
    | reg cr =>
     obtain ⟨rfl, hcl'⟩ := cellsAt_reg hc
     have hj : jumps p = true := by
      cases hj : jumps p with
      | true => rfl
      | false => have := walk_flat hj hw; simp [subL] at this
     exact ⟨c, by simp [cellsAt, hcl'], fun _ => rfl, VRel_keep (fun _ => VRel_pins hv) (hset c hcl (g2 hj).symm (fun _ _ _ => rfl))⟩
    | mem bl ol =>
     obtain ⟨hk, q0, cs, hB⟩ := hL _ _ rfl
     have hcw := cellsAt_inv hc hB.blk
     simp only [Ty.size] at hcw
     cases hj : jumps p with
     | true =>
      have hnb : bl ≠ b₀ := fun e => by
       subst e
       have := h0 _ hk
       simp only [ownKey] at this
       obtain ⟨s, hs⟩ := ownKey_jump (k := k ++ [i]) (ko := ko) hj
       rw [hs] at this
       have := congrArg List.length this
       simp at this; omega
      have hB' := hB.same (hchg.other bl hnb)
      refine ⟨c, ?_, fun _ => rfl, VRel_keep (fun _ => VRel_pins hv) (hset c hcl (g2 hj).symm (fun _ _ _ => rfl))⟩
      rw [cellsAt_mem hB'.blk (by simp only [Ty.size]; exact hcw.2), hcw.1]; rfl
     | false =>
      have hfl := walk_flat hj hw
      simp only [subL] at hfl
      obtain ⟨o', e, ho1, ho2⟩ := hfl
      simp only [Loc.mem.injEq] at e
      obtain ⟨rfl, rfl⟩ := e
      have hdl := VRel_len hd
      obtain ⟨cs', hB', hz, hcs, hle⟩ := hchg.size hB
      refine ⟨win cs'.toList ol (n * t.size), ?_, by simp [jumps, PS.jumps, hj], VRel_keep (by simp [hj]) (hset _ (win_len (by simp; omega)) ?_ ?_)⟩
      ·rw [cellsAt_mem hB'.blk (by simp only [Ty.size]; omega)]; rfl
      ·rw [win_win (by omega)]
       simp only [subL] at g1
       rw [cellsAt_mem hB'.blk (by omega)] at g1
       simpa using g1
      ·intro j hj' hjn
       have hmj : (j + 1) * t.size ≤ n * t.size := Nat.mul_le_mul_right _ hjn
       rw [Nat.add_mul] at hmj
       rw [hcw.1, win_win (by omega), win_win (by omega), hcs]
       refine win_splice_out (by simpa using hle) ?_
       rcases Nat.lt_or_gt_of_ne hj' with h | h
       ·have : (j + 1) * t.size ≤ i * t.size := Nat.mul_le_mul_right _ h
        rw [Nat.add_mul] at this
        exact .inl (by omega)
       ·have : (i + 1) * t.size ≤ j * t.size := Nat.mul_le_mul_right _ h
        rw [Nat.add_mul] at this
        exact .inr (by omega)
   ·simp at hm
 | .der :: p, .ptr t, f, x, d, f2, x2, k, ko, L, c, cd, t', b₀, o₀, hm, hi, hc, hv, hw, hsz, hL, hko, hβ, h0, h0', hS, hchg, hd => by
  have main : ∀ (e : Fl) (y : Fl × t.D), f.base = .own e → modP p t e x d = some y → x2 = y.2 → f2.base = .own y.1 → Pins H f2 c →
    ∃ c2, cellsAt w' (Ty.ptr t).size L = some c2 ∧ (jumps (.der :: p) = true → c2 = c) ∧ VRel S β' H w' k (.ptr t) f2 x2 c2 := by
   intro e y hf hm' hx2 hf2 hpins
   have hv' := hv
   simp only [VRel, hf] at hv'
   obtain ⟨_, b, cs, rfl, hkb, hB, hz, hv1⟩ := hv'
   have hc' := cellsAt_mem (o := 0) (n := t.size) hB.blk (by omega)
   have hwin : win cs.toList 0 t.size = cs.toList := by rw [← hz, ← Array.length_toList]; exact win_all _
   rw [hwin] at hc'
   simp only [Ty.size] at hc
   simp only [walk, stepL, hc] at hw
   have hkey : (k ++ [0]) ++ keyP p = k ++ keyP (.der :: p) := by simp [keyP]
   obtain ⟨c2, g1, g2, g3⟩ := walk_set (k := k ++ [0]) (ko := k) hm' (by simpa [inB] using hi) hc' hv1 hw hsz
    (fun bl o e => by simp only [Loc.mem.injEq] at e; rw [← e.1]; exact ⟨hkb, _, cs, hB⟩) (by simp) (by rw [hkey]; exact hβ)
    (by simpa [ownKey] using h0) (by simpa [ownKey] using h0') hS hchg (by rw [hkey]; exact hd)
   have hβk : β' k = some b := by
    rw [hβ k (fun hp => by
     have := hp.length_le
     simp [keyP] at this <;> omega)]
    exact hkb
   have hLc : cellsAt w' 1 L = some [.pointer (some ⟨b, 0, none⟩)] := by
    cases L with
    | reg cr => exact hc
    | mem bl ol =>
     obtain ⟨hk, q0, csL, hBL⟩ := hL _ _ rfl
     have hcw := cellsAt_inv hc hBL.blk
     have hnb : bl ≠ b₀ := fun e => by
      subst e
      have := h0 _ hk
      obtain ⟨s, hs⟩ := ownKey_jump (p := .der :: p) (k := k) (ko := ko) (by simp [jumps, PS.jumps])
      rw [hs] at this
      have := congrArg List.length this
      simp at this; omega
     rw [cellsAt_mem (hBL.same (hchg.other bl hnb)).blk hcw.2, ← hcw.1]
   have hnew : ∃ cs', OBlk false w' b cs' ∧ cs'.size = cs.size := by
    by_cases e : b = b₀
    ·subst e; obtain ⟨cs', h1, h2, _⟩ := hchg.size hB; exact ⟨cs', h1, h2⟩
    ·exact ⟨cs, hB.same (hchg.other b e), rfl⟩
   obtain ⟨cs', hB', hz'⟩ := hnew
   refine ⟨_, by simpa [Ty.size] using hLc, fun _ => rfl, ?_⟩
   simp only [VRel, hf2]
   refine ⟨hpins, b, cs', rfl, hβk, hB', by omega, ?_⟩
   rw [cellsAt_mem hB'.blk (by omega)] at g1
   have hwin' : win cs'.toList 0 t.size = cs'.toList := by rw [← hz, ← hz', ← Array.length_toList]; exact win_all _
   rw [hwin'] at g1
   simp only [Option.some.injEq] at g1
   rw [g1, hx2]; exact g3
  have hp0 := VRel_pins hv
  cases f with
  | own e =>
   simp only [modP] at hm
   cases hm' : modP p t e x d with
   | none => simp [hm'] at hm
   | some y =>
    simp only [hm', Option.map_some, Option.some.injEq, Prod.mk.injEq] at hm
    obtain ⟨rfl, rfl⟩ := hm
    exact main e y rfl hm' rfl rfl (by simp [Pins, Fl.pins])
  | pin j g =>
   cases g with
   | own e =>
    simp only [modP] at hm
    cases hm' : modP p t e x d with
    | none => simp [hm'] at hm
    | some y =>
     simp only [hm', Option.map_some, Option.some.injEq, Prod.mk.injEq] at hm
     obtain ⟨rfl, rfl⟩ := hm
     exact main e y rfl hm' rfl rfl (fun i hi => hp0 i (by simpa [Fl.pins] using hi))
   | _ => simp [modP] at hm
  | _ => simp [modP] at hm
 | .elm i :: p, .sl t, f, x, d, f2, x2, k, ko, L, c, cd, t', b₀, o₀, hm, hi, hc, hv, hw, hsz, hL, hko, hβ, h0, h0', hS, hchg, hd => by
  have main : ∀ (e : Fl) (y : Fl × t.D), f.base = .own e → modP p t e (List.getD x i t.dflt) d = some y → y.1 = e → x2 = List.set x i y.2 → f2.base = .own e → Pins H f2 c →
    ∃ c2, cellsAt w' (Ty.sl t).size L = some c2 ∧ (jumps (.elm i :: p) = true → c2 = c) ∧ VRel S β' H w' k (.sl t) f2 x2 c2 := by
   intro e y hf hm' hye hx2 hf2 hpins
   simp only [inB] at hi
   obtain ⟨hi, hi'⟩ := hi
   have hv' := hv
   simp only [VRel, hf] at hv'
   obtain ⟨_, ad, cap, rfl, hle, hv1⟩ := hv'
   rcases hv1 with h | ⟨b, o, cs, rfl, hkb, hB, hz, hel⟩
   ·have := nil_of_cap hle h; rw [this] at hi; simp at hi
   ·have hmul : (i + 1) * t.size ≤ cap * t.size := Nat.mul_le_mul_right _ (Nat.le_trans hi hle)
    rw [Nat.add_mul] at hmul
    have hc' := cellsAt_mem (o := o + i * t.size) (n := t.size) hB.blk (by omega)
    simp only [Ty.size] at hc
    simp only [walk, stepL, hc, hi, if_true] at hw
    have hkey : (k ++ [i]) ++ keyP p = k ++ keyP (.elm i :: p) := by simp [keyP]
    obtain ⟨c2, g1, g2, g3⟩ := walk_set (k := k ++ [i]) (ko := k) hm' hi' hc' (hel i _ (getD_nth hi)) hw hsz
     (fun bl o' e => by simp only [Loc.mem.injEq] at e; rw [← e.1]; exact ⟨hkb, _, cs, hB⟩) (by simp) (by rw [hkey]; exact hβ)
     (by simpa [ownKey] using h0) (by simpa [ownKey] using h0') hS hchg (by rw [hkey]; exact hd)
    have hβk : β' k = some b := by
     rw [hβ k (fun hp => by have := hp.length_le; simp [keyP] at this <;> omega)]
     exact hkb
    have hLc : cellsAt w' 1 L = some [.slice (some ⟨b, o, none⟩) (List.length x) cap] := by
     cases L with
     | reg cr => exact hc
     | mem bl ol =>
      obtain ⟨hk, q0, csL, hBL⟩ := hL _ _ rfl
      have hcw := cellsAt_inv hc hBL.blk
      have hnb : bl ≠ b₀ := fun e => by
       subst e
       have := h0 _ hk
       obtain ⟨s, hs⟩ := ownKey_jump (p := .elm i :: p) (k := k) (ko := ko) (by simp [jumps, PS.jumps])
       rw [hs] at this
       have := congrArg List.length this
       simp at this <;> omega
      rw [cellsAt_mem (hBL.same (hchg.other bl hnb)).blk hcw.2, ← hcw.1]
    have hko2 : ∀ j s, j ≠ i → ownKey k ko (.elm i :: p) ≠ k ++ [j] ++ s := fun j s hj e => by
     simp only [ownKey] at e
     rcases ownKey_form (p := p) (k := k ++ [i]) (ko := k) with he | ⟨u, he⟩
     ·rw [he] at e; have := congrArg List.length e; simp at this <;> omega
     ·rw [he] at e; simp at e; exact hj e.1.symm
    have hside : ∀ j z, j ≠ i → nth x j = some z → VRel S β' H w' (k ++ [j]) t e z (win cs.toList (o + j * t.size) t.size) := fun j z hj hz =>
     VRel_aside (q := []) hS hchg (fun s => hko2 j s hj) h0 (fun s => hβ _ (by simp only [keyP, List.append_assoc, List.cons_append, List.nil_append]; exact pre_ne (fun e => hj e.symm))) (hel j z hz) rfl
    have hnew : ∃ cs', OBlk (isU8 t) w' b cs' ∧ cs'.size = cs.size ∧ win cs'.toList (o + i * t.size) t.size = c2 ∧
      ∀ j, j ≠ i → j < List.length x → win cs'.toList (o + j * t.size) t.size = win cs.toList (o + j * t.size) t.size := by
     by_cases e : b = b₀
     ·subst e
      obtain ⟨cs', h1, h2, hcs, hle'⟩ := hchg.size hB
      have hj : jumps p = false := by
       cases hj : jumps p with
       | false => rfl
       | true =>
        have := h0 _ hkb
        simp only [ownKey] at this
        obtain ⟨s, hs⟩ := ownKey_jump (k := k ++ [i]) (ko := k) hj
        rw [hs] at this
        have := congrArg List.length this
        simp at this <;> omega
      obtain ⟨o', e, ho1, ho2⟩ := walk_flat hj hw
      simp only [Loc.mem.injEq] at e
      obtain ⟨_, rfl⟩ := e
      have hdl := VRel_len hd
      refine ⟨cs', h1, h2, ?_, fun j hj' hjl => ?_⟩
      ·rw [cellsAt_mem h1.blk (by omega)] at g1
       simpa using g1
      ·have hmj : (j + 1) * t.size ≤ cap * t.size := Nat.mul_le_mul_right _ (Nat.le_trans hjl hle)
       rw [Nat.add_mul] at hmj
       rw [hcs]
       refine win_splice_out (by simpa using hle') ?_
       rcases Nat.lt_or_gt_of_ne hj' with h | h
       ·have : (j + 1) * t.size ≤ i * t.size := Nat.mul_le_mul_right _ h
        rw [Nat.add_mul] at this
        exact .inl (by omega)
       ·have : (i + 1) * t.size ≤ j * t.size := Nat.mul_le_mul_right _ h
        rw [Nat.add_mul] at this
        exact .inr (by omega)
     ·have hs := hB.same (hchg.other b e)
      refine ⟨cs, hs, rfl, ?_, fun _ _ _ => rfl⟩
      rw [cellsAt_mem hs.blk (by omega)] at g1
      simpa using g1
    obtain ⟨cs', hB', hz', h1, h2⟩ := hnew
    refine ⟨_, by simpa [Ty.size] using hLc, fun _ => rfl, ?_⟩
    simp only [VRel, hf2]
    have hlen : List.length x2 = List.length x := by rw [hx2]; exact List.length_set (as := (x : List t.D))
    refine ⟨hpins, _, cap, by rw [hlen], by rw [hlen]; exact hle, .inr ⟨b, o, cs', rfl, hβk, hB', by omega, fun j z hz => ?_⟩⟩
    rw [hx2] at hz
    rcases nth_set hz with ⟨rfl, _, rfl⟩ | ⟨hj, hz⟩
    ·rw [h1, ← hye]; exact g3
    ·rw [h2 j hj (List.getElem?_eq_some_iff.1 hz).1]; exact hside j z hj hz
  have hp0 := VRel_pins hv
  cases f with
  | own e =>
   simp only [modP] at hm
   cases hm' : modP p t e (List.getD x i t.dflt) d with
   | none => simp [hm'] at hm
   | some y =>
    simp only [hm', Option.bind_some] at hm
    split at hm
    ·rename_i hye
     simp only [Option.some.injEq, Prod.mk.injEq] at hm
     obtain ⟨rfl, rfl⟩ := hm
     exact main e y rfl hm' hye rfl rfl (by simp [Pins, Fl.pins])
    ·simp at hm
  | pin j g =>
   cases g with
   | own e =>
    simp only [modP] at hm
    cases hm' : modP p t e (List.getD x i t.dflt) d with
    | none => simp [hm'] at hm
    | some y =>
     simp only [hm', Option.bind_some] at hm
     split at hm
     ·rename_i hye
      simp only [Option.some.injEq, Prod.mk.injEq] at hm
      obtain ⟨rfl, rfl⟩ := hm
      exact main e y rfl hm' hye rfl rfl (fun i hi => hp0 i (by simpa [Fl.pins] using hi))
     ·simp at hm
   | _ => simp [modP] at hm
  | _ => simp [modP] at hm
end
end Go.Rf

end
section
namespace Go.Rf
theorem le_sh : ∀ {f : Fl}, Fl.le .sh f = f.whole
 | .sh | .gone | .own _ | .ar _ => by simp [Fl.le, Fl.whole, Fl.low]
 | .pr _ _ => by simp [Fl.le, Fl.whole]
 | .pin _ f => by simp only [Fl.le, Fl.whole]; exact le_sh
theorem le_refl : ∀ (f : Fl), Fl.le f f = true
 | .sh => rfl
 | .gone => rfl
 | .own e => by simp only [Fl.le]; exact le_refl e
 | .pr a b => by simp only [Fl.le, le_refl a, le_refl b, Bool.and_self]
 | .ar e => by simp only [Fl.le]; exact le_refl e
 | .pin k f => by simp only [Fl.le, le_refl f, Bool.and_true]; exact Nat.beq_refl k
theorem whole_base {f : Fl} (h : f.whole = true) : f.base ≠ .gone := fun e => by
 have := base_whole h; rw [e] at this; simp [Fl.whole] at this
theorem isGone_base {f : Fl} (h : f.isGone = false) : f.base ≠ .gone := fun e => by
 simp [Fl.isGone, e] at h
theorem mkpr_base {a b : Fl} : (Fl.mkpr a b).base = Fl.mkpr a b := by unfold Fl.mkpr; split <;> rfl
theorem mkar_base {a : Fl} : (Fl.mkar a).base = Fl.mkar a := by unfold Fl.mkar; split <;> rfl
theorem mkpr_l {a b : Fl} : (Fl.mkpr a b).l = a := by unfold Fl.mkpr; split <;> simp_all [Fl.l]
theorem mkpr_r {a b : Fl} : (Fl.mkpr a b).r = b := by unfold Fl.mkpr; split <;> simp_all [Fl.r]
theorem mkar_a {a : Fl} : (Fl.mkar a).a = a := by unfold Fl.mkar; split <;> simp_all [Fl.a]
theorem mkpr_ne {a b : Fl} : (Fl.mkpr a b).base ≠ .gone := by unfold Fl.mkpr; split <;> simp [Fl.base]
theorem mkar_ne {a : Fl} : (Fl.mkar a).base ≠ .gone := by unfold Fl.mkar; split <;> simp [Fl.base]
theorem wrap_base : ∀ {f g : Fl}, (Fl.wrap f g).base = g.base
 | .pin k _, g => by simp only [Fl.wrap]; cases g <;> rfl
 | .sh, _ | .gone, _ | .own _, _ | .pr _ _, _ | .ar _, _ => rfl
theorem wrap_pins {f g : Fl} : ∀ k ∈ (Fl.wrap f g).pins, k ∈ g.pins ∨ k ∈ f.pins := by
 intro k hk
 cases f with
 | pin j f =>
  simp only [Fl.wrap] at hk
  cases g with
  | pin i e => exact .inl hk
  | _ => simp only [Fl.mkpin, Fl.pins, List.mem_cons, List.not_mem_nil, or_false] at hk; subst hk; exact .inr (by simp [Fl.pins])
 | _ => exact .inl hk
theorem le_wrap {f g : Fl} (h : Fl.le g f = true) (hd : ∀ k e, f = .pin k e → Fl.le g e = true) (hg : ∀ k e, g ≠ .pin k e) : Fl.le (Fl.wrap f g) f = true := by
 cases f with
 | pin k e =>
  have hm : Fl.wrap (.pin k e) g = .pin k g := by
   simp only [Fl.wrap]; unfold Fl.mkpin; split
   ·rename_i j e he; exact absurd rfl (hg _ _)
   ·rfl
  rw [hm]; simp only [Fl.le, hd k e rfl, Bool.and_true]; exact Nat.beq_refl k
 | _ => exact h
theorem le_of_base : ∀ {f g : Fl}, (∀ k e, g ≠ .pin k e) → Fl.le g f.base = true → Fl.le g f = true
 | .pin k f, g, hg, h => by
  simp only [Fl.base] at h
  have := le_of_base hg h
  unfold Fl.le; split
  ·exact absurd rfl (hg _ _)
  ·exact this
 | .sh, _, _, h | .gone, _, _, h | .own _, _, _, h | .pr _ _, _, _, h | .ar _, _, _, h => h
theorem le_wrap_base {f g : Fl} (hg : ∀ k e, g ≠ .pin k e) (h : Fl.le g f.base = true) : Fl.le (Fl.wrap f g) f = true :=
 le_wrap (le_of_base hg h) (fun k e he => by subst he; exact le_of_base hg h) hg
theorem getP_ne {p : List PS} {t : Ty} {f : Fl} {x : t.D} {d : Dat} (h : getP p t f x = some d) (hd : d.f.base ≠ .gone) : f.base ≠ .gone := fun e => hd (getP_gone e h)
theorem getP_cases_l {f : Fl} (h : f.l.base ≠ .gone) : f.base = .sh ∨ ∃ c d, f.base = .pr c d := by
 rw [l_base] at h
 cases hf : f.base with
 | sh => exact .inl rfl
 | pr c d => exact .inr ⟨c, d, rfl⟩
 | pin k e => exact absurd hf base_ne_pin
 | _ => rw [hf] at h; simp [Fl.l, Fl.base] at h
theorem getP_cases_r {f : Fl} (h : f.r.base ≠ .gone) : f.base = .sh ∨ ∃ c d, f.base = .pr c d := by
 rw [r_base] at h
 cases hf : f.base with
 | sh => exact .inl rfl
 | pr c d => exact .inr ⟨c, d, rfl⟩
 | pin k e => exact absurd hf base_ne_pin
 | _ => rw [hf] at h; simp [Fl.r, Fl.base] at h
theorem getP_cases_a {f : Fl} (h : f.a.base ≠ .gone) : f.base = .sh ∨ ∃ c, f.base = .ar c := by
 rw [a_base] at h
 cases hf : f.base with
 | sh => exact .inl rfl
 | ar c => exact .inr ⟨c, rfl⟩
 | pin k e => exact absurd hf base_ne_pin
 | _ => rw [hf] at h; simp [Fl.a, Fl.base] at h
theorem getP_cases_e {f : Fl} (h : f.e.base ≠ .gone) : f.base = .sh ∨ ∃ c, f.base = .own c := by
 rw [e_base] at h
 cases hf : f.base with
 | sh => exact .inl rfl
 | own c => exact .inr ⟨c, rfl⟩
 | pin k e => exact absurd hf base_ne_pin
 | _ => rw [hf] at h; simp [Fl.e, Fl.base] at h
theorem mkpr_nopin {a b : Fl} : ∀ k e, Fl.mkpr a b ≠ .pin k e := fun k g => by unfold Fl.mkpr; split <;> simp
theorem mkar_nopin {a : Fl} : ∀ k e, Fl.mkar a ≠ .pin k e := fun k g => by unfold Fl.mkar; split <;> simp
theorem le_mkpr {a b f : Fl} (h1 : Fl.le a f.l = true) (h2 : Fl.le b f.r = true) (hn : f.base = .sh ∨ ∃ c d, f.base = .pr c d) : Fl.le (Fl.wrap f (.mkpr a b)) f = true := by
 refine le_wrap_base mkpr_nopin ?_
 rw [l_base] at h1
 rw [r_base] at h2
 rcases hn with h | ⟨c, d, h⟩ <;> rw [h] at h1 h2 ⊢
 ·simp only [Fl.l, Fl.r, Fl.le] at h1 h2
  unfold Fl.mkpr; split <;> simp [Fl.le, Fl.low, h1, h2]
 ·simp only [Fl.l, Fl.r] at h1 h2
  unfold Fl.mkpr; split
  ·rw [le_sh] at h1 h2; simp [Fl.le, h1, h2]
  ·simp [Fl.le, h1, h2]
theorem le_mkar {a f : Fl} (h1 : Fl.le a f.a = true) (hn : f.base = .sh ∨ ∃ c, f.base = .ar c) : Fl.le (Fl.wrap f (.mkar a)) f = true := by
 refine le_wrap_base mkar_nopin ?_
 rw [a_base] at h1
 rcases hn with h | ⟨c, h⟩ <;> rw [h] at h1 ⊢
 ·simp only [Fl.a, Fl.le] at h1
  unfold Fl.mkar; split <;> simp [Fl.le, Fl.low, h1]
 ·simp only [Fl.a] at h1
  unfold Fl.mkar; split
  ·rw [le_sh] at h1; simp [Fl.le, h1]
  ·simp [Fl.le, h1]
theorem derF_nopin {f g : Fl} : ∀ k e, derF f g ≠ .pin k e := fun k e => by unfold derF; split <;> simp
theorem derF_ne {f g : Fl} : (derF f g).base ≠ .gone := by unfold derF; split <;> simp [Fl.base]
theorem le_der {g f : Fl} (h1 : Fl.le g f.e = true) (hn : f.base = .sh ∨ ∃ c, f.base = .own c) : Fl.le (Fl.wrap f (derF f g)) f = true := by
 refine le_wrap_base derF_nopin ?_
 rw [e_base] at h1
 unfold derF
 rcases hn with h | ⟨c, h⟩ <;> rw [h] at h1 ⊢
 ·rfl
 ·simpa [Fl.le, Fl.e] using h1
theorem le_setF {g : Fl} : ∀ {p : List PS} {t : Ty} {f : Fl} {x : t.D} {d : Dat}, getP p t f x = some d → d.f.base ≠ .gone → Fl.le g d.f = true → Fl.le (setF p f g) f = true
 | [], t, f, x, d, h, _, hw => by simp only [getP, Option.some.injEq] at h; subst h; exact hw
 | .fst :: p, .pair a b, f, x, d, h, hd, hw => by
  simp only [getP] at h
  simp only [setF]
  exact le_mkpr (le_setF h hd hw) (le_refl _) (getP_cases_l (getP_ne h hd))
 | .snd :: p, .pair a b, f, x, d, h, hd, hw => by
  simp only [getP] at h
  simp only [setF]
  exact le_mkpr (le_refl _) (le_setF h hd hw) (getP_cases_r (getP_ne h hd))
 | .idx i :: p, .arr n t, f, x, d, h, hd, hw => by
  simp only [getP] at h
  simp only [setF]
  exact le_mkar (le_setF h hd hw) (getP_cases_a (getP_ne h hd))
 | .der :: p, .ptr t, f, x, d, h, hd, hw => by
  simp only [getP] at h
  simp only [setF]
  exact le_der (le_setF h hd hw) (getP_cases_e (getP_ne h hd))
 | .elm i :: p, .sl t, f, x, d, h, hd, hw => by
  simp only [getP] at h
  simp only [setF]
  exact le_der (le_setF h hd hw) (getP_cases_e (getP_ne h hd))
theorem getP_sh : ∀ {p : List PS} {t : Ty} {f : Fl} {x : t.D} {d : Dat}, f.base = .sh → getP p t f x = some d → d.f.base = .sh
 | [], _, _, _, _, hf, h => by simp only [getP, Option.some.injEq] at h; subst h; exact hf
 | .fst :: p, .pair a _, f, x, d, hf, h => by simp only [getP] at h; rw [l_base, hf] at h; exact getP_sh rfl h
 | .snd :: p, .pair a _, f, x, d, hf, h => by simp only [getP] at h; rw [r_base, hf] at h; exact getP_sh rfl h
 | .der :: p, .ptr _, f, x, d, hf, h => by simp only [getP] at h; rw [e_base, hf] at h; exact getP_sh rfl h
 | .idx i :: p, .arr _ _, f, x, d, hf, h => by simp only [getP] at h; rw [a_base, hf] at h; exact getP_sh rfl h
 | .elm i :: p, .sl _, f, x, d, hf, h => by simp only [getP] at h; rw [e_base, hf] at h; exact getP_sh rfl h
theorem getP_flags : ∀ {p : List PS} {t : Ty} {f g : Fl} {x : t.D} {d : Dat}, getP p t f x = some d → ∃ h, getP p t g x = some ⟨d.t, d.x, h⟩
 | [], _, _, g, _, _, h => by simp only [getP, Option.some.injEq] at h; subst h; exact ⟨g, rfl⟩
 | .fst :: p, .pair a _, f, g, x, d, h => by simp only [getP] at h ⊢; exact getP_flags h
 | .snd :: p, .pair a _, f, g, x, d, h => by simp only [getP] at h ⊢; exact getP_flags h
 | .der :: p, .ptr _, f, g, x, d, h => by simp only [getP] at h ⊢; exact getP_flags h
 | .idx i :: p, .arr _ _, f, g, x, d, h => by simp only [getP] at h ⊢; exact getP_flags h
 | .elm i :: p, .sl _, f, g, x, d, h => by simp only [getP] at h ⊢; exact getP_flags h
theorem getP_other : ∀ {p : List PS} {t : Ty} {f : Fl} {x y : t.D} {d : Dat}, getP p t f x = some d → ∃ z, getP p t f y = some ⟨d.t, z, d.f⟩
 | [], _, _, _, y, _, h => by simp only [getP, Option.some.injEq] at h; subst h; exact ⟨y, rfl⟩
 | .fst :: p, .pair a _, f, _, y, d, h => by simp only [getP] at h ⊢; exact getP_other h
 | .snd :: p, .pair a _, f, _, y, d, h => by simp only [getP] at h ⊢; exact getP_other h
 | .der :: p, .ptr _, f, _, y, d, h => by simp only [getP] at h ⊢; exact getP_other h
 | .idx i :: p, .arr _ _, f, _, y, d, h => by simp only [getP] at h ⊢; exact getP_other h
 | .elm i :: p, .sl _, f, _, y, d, h => by simp only [getP] at h ⊢; exact getP_other h
theorem derF_e {f g : Fl} (hn : f.base = .sh ∨ ∃ c, f.base = .own c) : (derF f g).e = .sh ∨ (derF f g).e = g := by
 unfold derF
 rcases hn with h | ⟨c, h⟩ <;> rw [h] <;> simp [Fl.e]
theorem getP_base_sh : ∀ {p : List PS} {t : Ty} {f : Fl} {x : t.D} {d : Dat}, getP p t f x = some d → f.base = .sh → d.f.base ≠ .gone := fun h hf => by
 rw [getP_sh hf h]; simp
theorem getP_setF : ∀ {p q : List PS} {t : Ty} {f : Fl} {x y : t.D} {d e : Dat}, getP p t f y = some e → e.f.base ≠ .gone → getP q t f x = some d → d.f.base ≠ .gone →
  ∃ h, getP q t (setF p f .sh) x = some ⟨d.t, d.x, h⟩ ∧ h.base ≠ .gone
 | [], q, t, f, x, y, d, e, _, _, hq, _ => by
  obtain ⟨h, hh⟩ := getP_flags (g := .sh) hq
  exact ⟨h, hh, by have := getP_base_sh hh rfl; exact this⟩
 | s :: p, [], t, f, x, y, d, e, hp, he, hq, hd => by
  simp only [getP, Option.some.injEq] at hq; subst hq
  refine ⟨_, rfl, ?_⟩
  cases s <;> simp only [setF, wrap_base]
  ·exact derF_ne
  ·exact mkpr_ne
  ·exact mkpr_ne
  ·exact mkar_ne
  ·exact derF_ne
 | s :: p, r :: q, t, f, x, y, d, e, hp, he, hq, hd => by
  cases s <;> cases t <;> cases r <;> (try simp only [getP, reduceCtorEq] at hp) <;> (try simp only [getP, reduceCtorEq] at hq) <;> simp only [getP, setF]
  case fst.pair.fst =>
   rw [l_base, wrap_base, ← l_base, mkpr_l]
   exact getP_setF hp he hq hd
  case snd.pair.snd =>
   rw [r_base, wrap_base, ← r_base, mkpr_r]
   exact getP_setF hp he hq hd
  case fst.pair.snd =>
   rw [r_base, wrap_base, ← r_base, mkpr_r]
   exact ⟨_, hq, hd⟩
  case snd.pair.fst =>
   rw [l_base, wrap_base, ← l_base, mkpr_l]
   exact ⟨_, hq, hd⟩
  case idx.arr.idx =>
   rw [a_base, wrap_base, ← a_base, mkar_a]
   exact getP_setF hp he hq hd
  case der.ptr.der =>
   rw [e_base, wrap_base, ← e_base]
   rcases derF_e (g := setF p f.e .sh) (getP_cases_e (getP_ne hp he)) with h | h
   ·obtain ⟨k, hk⟩ := getP_flags (g := .sh) hq
    exact ⟨k, (congrArg (fun g => getP q _ g _) h).trans hk, by have := getP_base_sh hk rfl; exact this⟩
   ·obtain ⟨k, hk, hne⟩ := getP_setF hp he hq hd
    exact ⟨k, (congrArg (fun g => getP q _ g _) h).trans hk, hne⟩
  case elm.sl.elm =>
   rw [e_base, wrap_base, ← e_base]
   rcases derF_e (g := setF p f.e .sh) (getP_cases_e (getP_ne hp he)) with h | h
   ·obtain ⟨k, hk⟩ := getP_flags (g := .sh) hq
    exact ⟨k, (congrArg (fun g => getP q _ g _) h).trans hk, by have := getP_base_sh hk rfl; exact this⟩
   ·obtain ⟨k, hk, hne⟩ := getP_setF hp he hq hd
    exact ⟨k, (congrArg (fun g => getP q _ g _) h).trans hk, hne⟩
section
variable {S S' : Nat → Prop} {β β' : Key → Option Nat} {H : Nat → Option (List Value)} {w w' : World}
theorem VRel_wrap {k : Key} {t : Ty} {f g : Fl} {x : t.D} {c : List Value} (hp : Pins H f c) (h : VRel S β H w k t g x c) : VRel S β H w k t (Fl.wrap f g) x c := by
 have hb : (Fl.wrap f g).base = g.base := wrap_base
 have hpin : Pins H (Fl.wrap f g) c := fun k hk => (wrap_pins k hk).elim (fun h' => VRel_pins h k h') (fun h' => hp k h')
 cases t <;> simp only [VRel] at h ⊢ <;> rw [hb] <;> exact ⟨hpin, h.2⟩
theorem VRel_pin_base {k : Key} {t : Ty} {f : Fl} {x : t.D} {c : List Value} (h : VRel S β H w k t f x c) : VRel S β H w k t f.base x c := by
 have hb : f.base.base = f.base := by
  cases hf : f.base <;> simp [Fl.base]
  exact absurd hf base_ne_pin
 have hpin : Pins H f.base c := fun k hk => by
  cases hf : f.base with
  | pin _ _ => exact absurd hf base_ne_pin
  | _ => rw [hf] at hk; simp [Fl.pins] at hk
 cases t <;> simp only [VRel] at h ⊢ <;> rw [hb] <;> exact ⟨hpin, h.2⟩
theorem VRel_gone_at (hS : ∀ b, S b → S' b ∧ w'.heap[b]? = w.heap[b]?) : ∀ {p : List PS} {t : Ty} {f : Fl} {x : t.D} {c : List Value} {k : Key} {d : Dat},
  hasElm p = false → getP p t f x = some d → d.f.base ≠ .gone →
  (∀ s b, ¬ keyP p <+: s → β (k ++ s) = some b → β' (k ++ s) = some b ∧ w'.heap[b]? = w.heap[b]?) →
  VRel S β H w k t f x c → VRel S' β' H w' k t (setF p f .gone) x c
 | [], t, f, x, c, k, d, _, _, _, _, h => by
  simp only [setF]; exact VRel_gone.2 (VRel_len h)
 | .fst :: p, .pair a b, f, x, c, k, d, he, hg, hd, hβ, h => by
  simp only [getP] at hg
  simp only [setF]
  have hp := VRel_parts h
  refine VRel_wrap (VRel_pins h) (VRel_mkpr.2 ⟨VRel_gone_at hS (by simpa [hasElm, PS.isElm] using he) hg hd (fun s b hs hb => by simpa using hβ (0 :: s) b (by simpa [keyP, List.cons_prefix_cons] using hs) (by simpa using hb)) hp.1, ?_⟩)
  exact VRel_trans hS (fun s b hb => by simpa using hβ (1 :: s) b (by simp [keyP, List.cons_prefix_cons]) (by simpa using hb)) hp.2
 | .snd :: p, .pair a b, f, x, c, k, d, he, hg, hd, hβ, h => by
  simp only [getP] at hg
  simp only [setF]
  have hp := VRel_parts h
  refine VRel_wrap (VRel_pins h) (VRel_mkpr.2 ⟨?_, VRel_gone_at hS (by simpa [hasElm, PS.isElm] using he) hg hd (fun s b hs hb => by simpa using hβ (1 :: s) b (by simpa [keyP, List.cons_prefix_cons] using hs) (by simpa using hb)) hp.2⟩)
  exact VRel_trans hS (fun s b hb => by simpa using hβ (0 :: s) b (by simp [keyP, List.cons_prefix_cons]) (by simpa using hb)) hp.1
 | .der :: p, .ptr t, f, x, c, k, d, he, hg, hd, hβ, h => by
  simp only [getP] at hg
  simp only [setF]
  refine VRel_wrap (VRel_pins h) ?_
  rcases getP_cases_e (getP_ne hg hd) with hf | ⟨e, hf⟩
  ·simp only [derF, hf]
   have := VRel_pin_base h
   rw [hf, VRel_sh] at this
   rw [VRel_sh]; exact Rd_mono hS this
  ·simp only [derF, hf]
   have h' := VRel_pin_base h
   rw [hf] at h'
   rw [e_base, hf] at hg ⊢
   simp only [VRel, Fl.base] at h' ⊢
   obtain ⟨_, b, cs, rfl, hb, ho, hz, hv⟩ := h'
   have := hβ [] b (by simp [keyP]) (by simpa using hb)
   simp only [List.append_nil] at this
   refine ⟨by simp [Pins, Fl.pins], b, cs, rfl, this.1, ho.same this.2, hz, ?_⟩
   exact VRel_gone_at hS (by simpa [hasElm, PS.isElm] using he) (by simpa [Fl.e] using hg) hd (fun s b hs hb => by simpa using hβ (0 :: s) b (by simpa [keyP, List.cons_prefix_cons] using hs) (by simpa using hb)) hv
 | .idx i :: p, .arr n t, f, x, c, k, d, he, hg, hd, hβ, h => by
  simp only [getP] at hg
  simp only [setF]
  have h' := VRel_elems (getP_ne hg hd) h
  refine VRel_wrap (VRel_pins h) (VRel_mkar.2 ⟨h'.1, h'.2.1, fun j y hy => ?_⟩)
  obtain ⟨z, hz⟩ := getP_other (y := y) hg
  refine VRel_gone_at hS (by simpa [hasElm, PS.isElm] using he) hz hd (fun s b hs hb => ?_) (h'.2.2 j y hy)
  have hs' : ¬ keyP (.idx i :: p) <+: j :: s := by simp only [keyP, List.cons_prefix_cons, not_and]; exact fun _ => hs
  simpa using hβ (j :: s) b hs' (by simpa using hb)
 | .elm i :: p, _, f, x, c, k, d, he, _, _, _, _ => by simp [hasElm, PS.isElm] at he
end
end Go.Rf

end
section
namespace Go.Rf
def strip : Key → Key → Option Key
 | [], k => some k
 | a :: d, b :: k => if a = b then strip d k else none
 | _ :: _, [] => none
theorem strip_some : ∀ {d k s : Key}, strip d k = some s ↔ k = d ++ s
 | [], k, s => by simp [strip]
 | a :: d, b :: k, s => by
  simp only [strip, List.cons_append, List.cons.injEq]
  split
  ·rename_i h; subst h; simp [strip_some (d := d) (k := k) (s := s)]
  ·rename_i h; simp; intro e; exact absurd e.symm h
 | _ :: _, [], s => by simp [strip]
theorem strip_none {d k : Key} (h : strip d k = none) : ∀ s, k ≠ d ++ s := fun s e => by
 rw [strip_some.2 e] at h; cases h
theorem strip_app (d s : Key) : strip d (d ++ s) = some s := strip_some.2 rfl
class Laid where
 tabs : List (Nat × Array Value)
set_option linter.unusedSectionVars false
variable [T : Laid]
structure Sane (w : World) (S : Nat → Prop) (β : Key → Option Nat) : Prop where
 inj : ∀ k k' b, β k = some b → β k' = some b → k = k'
 sep : ∀ k b, β k = some b → ¬ S b
 live : ∀ k b, β k = some b → b < w.heap.size
 liveS : ∀ b, S b → b < w.heap.size
 tab : ∀ t ∈ T.tabs, S t.1 ∧ Blk w t.1 t.2
theorem Sane.tabs {w w' : World} {S S' : Nat → Prop} {β : Key → Option Nat} (h : Sane w S β) (hS : ∀ b, S b → S' b ∧ w'.heap[b]? = w.heap[b]?) : ∀ t ∈ T.tabs, S' t.1 ∧ Blk w' t.1 t.2 := fun t ht =>
 ⟨(hS _ (h.tab t ht).1).1, (h.tab t ht).2.same (hS _ (h.tab t ht).1).2⟩
structure Step (w : World) (S : Nat → Prop) (β : Key → Option Nat) (w' : World) (S' : Nat → Prop) (β' : Key → Option Nat) : Prop where
 size : w.heap.size ≤ w'.heap.size
 old : ∀ b, b < w.heap.size → (∀ k, β k ≠ some b) → w'.heap[b]? = w.heap[b]?
 new : ∀ k b, β' k = some b → (∃ k', β k' = some b) ∨ w.heap.size ≤ b
 keepS : ∀ b, S b → S' b
 newS : ∀ b, S' b → S b ∨ (∃ k, β k = some b) ∨ w.heap.size ≤ b
 out : SameOut w w'
theorem Step.refl {w : World} {S : Nat → Prop} {β : Key → Option Nat} : Step w S β w S β :=
 ⟨Nat.le_refl _, fun _ _ _ => rfl, fun k _ h => .inl ⟨k, h⟩, fun _ h => h, fun _ h => .inl h, .rfl'⟩
theorem Step.trans {w w' w'' : World} {S S' S'' : Nat → Prop} {β β' β'' : Key → Option Nat} (h : Step w S β w' S' β') (h' : Step w' S' β' w'' S'' β'') : Step w S β w'' S'' β'' where
 size := Nat.le_trans h.size h'.size
 old b hb hk := by
  rw [← h.old b hb hk]
  refine h'.old b (Nat.lt_of_lt_of_le hb h.size) fun k hk' => ?_
  rcases h.new k b hk' with ⟨k', e⟩ | e
  ·exact hk k' e
  ·omega
 new k b hb := by
  rcases h'.new k b hb with ⟨k', e⟩ | e
  ·exact h.new k' b e
  ·have := h.size; exact .inr (by omega)
 keepS b hb := h'.keepS b (h.keepS b hb)
 newS b hb := by
  rcases h'.newS b hb with e | ⟨k, e⟩ | e
  ·exact h.newS b e
  ·rcases h.new k b e with e | e
   ·exact .inr (.inl e)
   ·exact .inr (.inr e)
  ·have := h.size; exact .inr (.inr (by omega))
 out := h.out.trans h'.out
theorem Step.same {w w' : World} {S S' : Nat → Prop} {β β' : Key → Option Nat} (h : Step w S β w' S' β') (hs : Sane w S β) : ∀ b, S b → S' b ∧ w'.heap[b]? = w.heap[b]? :=
 fun b hb => ⟨h.keepS b hb, h.old b (hs.liveS b hb) fun k hk => hs.sep k b hk hb⟩
theorem valOf_inj {t : Ty} {c c' : List Value} (h : valOf t c = valOf t c') (hl : c.length = t.size) (hl' : c'.length = t.size) : c = c' := by
 unfold valOf at h
 cases ha : t.agg with
 | true => rw [ha] at h; simpa using h
 | false =>
  rw [ha] at h
  have hs : t.size = 1 := by cases t <;> simp_all [Ty.agg, Ty.size]
  rw [hs] at hl hl'
  obtain ⟨a, rfl⟩ := List.length_eq_one_iff.1 hl
  obtain ⟨b, rfl⟩ := List.length_eq_one_iff.1 hl'
  simpa using h
def tupL : Ty → List Value → List Value
 | .pair a b, c => valOf a (c.take a.size) :: tupL b (c.drop a.size)
 | _, _ => []
def tupOf (t : Ty) (c : List Value) : Value := .tuple (tupL t c).toArray
def upd (V : Nat → Option Value) (i : Nat) (v : Value) : Nat → Option Value := fun j => if j = i then some v else V j
def repl (β : Key → Option Nat) (k : Key) (i : Nat) (b : Nat) : Key → Option Nat := fun k' => if k' = k then some b else if k' = [i] then none else β k'
section
variable (H : Nat → Option (List Value)) (N : Nat) (g : View) (V : Nat → Option Value) (w : World) (S : Nat → Prop) (β : Key → Option Nat)
def AdrB (r : Nat) (p : List PS) (v : Option Value) : Prop :=
 ∀ dr, (g r).sv = .dat dr → ∃ cr t b o, V r = some (valOf dr.t cr) ∧ cr.length = dr.t.size ∧ walk w dr.t (.reg cr) p = some (t, .mem b o) ∧
  v = some (.pointer (some ⟨b, o, none⟩)) ∧ inB p dr.t dr.x ∧ (boxed p = false → ∃ d, getP p dr.t dr.f dr.x = some d ∧ d.f.base ≠ .gone)
def AlsB (r : Nat) (p : List PS) (v : Option Value) : Prop :=
 ∀ dr, (g r).sv = .dat dr → ∃ cr d L c', V r = some (valOf dr.t cr) ∧ cr.length = dr.t.size ∧ getP p dr.t dr.f dr.x = some d ∧ d.f.base ≠ .gone ∧ inB p dr.t dr.x ∧
  walk w dr.t (.reg cr) p = some (d.t, L) ∧ cellsAt w d.t.size L = some c' ∧ v = some (valOf d.t c')
def PendB (i r : Nat) (p : List PS) (d : Dat) (v : Option Value) : Prop :=
 ∀ dr, (g r).sv = .dat dr → (∃ e, getP p dr.t dr.f dr.x = some e ∧ e.f.base ≠ .gone ∧ inB p dr.t dr.x) ∧ ∃ β2 c, (β2 = β ∨ ∃ b, β [i] = some b ∧ β2 = repl β (r :: keyP p) i b) ∧
  VRel S β2 H w (r :: keyP p) d.t d.f d.x c ∧ v = some (valOf d.t c)
def CloB (h : FuncId) (rs : List (Nat × Nat)) (v : Option Value) : Prop :=
 ∀ vs : List Value, rs.map (fun x => V x.1) = vs.map some → v = some (.func (.func h) #[] vs.toArray)
def SVRel (i : Nat) : SV → Prop
 | .dead => True
 | .nils => False
 | .und => V i = some undef
 | .unk => ∃ b, V i = some (.bool b)
 | .dat d => ∃ c, VRel S β H w [i] d.t d.f d.x c ∧ V i = some (valOf d.t c)
 | .tup d => ∃ c, VRel S β H w [i] d.t d.f d.x c ∧ V i = some (tupOf d.t c)
 | .adr r p c s => r < N ∧ c ≤ (g r).c ∧ s ≤ (g r).s ∧ (okB g r p c s = true → AdrB g V w r p (V i))
 | .als r p c s => r < N ∧ c ≤ (g r).c ∧ s ≤ (g r).s ∧ (okA g r c s = true → AlsB g V w r p (V i))
 | .pend r p c s u d => r < N ∧ c ≤ (g r).c ∧ s ≤ (g r).s ∧ u ≤ (g r).u ∧ (okU g r c s u = true → PendB H g w S β i r p d (V i))
 | .clo h rs => (∀ x ∈ rs, x.1 < N ∧ x.2 ≤ (g x.1).s) ∧ ((∀ x ∈ rs, (g x.1).s = x.2) → CloB V h rs (V i))
structure Rel : Prop where
 sane : Sane w S β
 slots : ∀ i, SVRel H N g V w S β i (g i).sv
end
theorem okA_iff {g : View} {r c s : Nat} : okA g r c s = true ↔ (g r).c = c ∧ (g r).s = s := by
 simp [okA, Nat.beq_eq]
theorem okU_iff {g : View} {r c s u : Nat} : okU g r c s u = true ↔ ((g r).c = c ∧ (g r).s = s) ∧ (g r).u = u := by
 simp [okU, okA_iff, Nat.beq_eq]
theorem okB_iff {g : View} {r : Nat} {p : List PS} {c s : Nat} : okB g r p c s = true ↔ (g r).s = s ∧ (boxed p = true ∨ (g r).c = c) := by
 simp [okB, Nat.beq_eq]
theorem walk_flat_reg {w w' : World} : ∀ {p : List PS} {t : Ty} {L : Loc}, jumps p = false → walk w t L p = walk w' t L p
 | [], _, _, _ => rfl
 | s :: p, t, L, h => by
  simp only [jumps, Bool.or_eq_false_iff] at h
  have hs : stepL w t L s = stepL w' t L s := by
   cases s <;> cases t <;> first | rfl | simp [PS.jumps] at h
  simp only [walk, hs]
  split
  ·exact walk_flat_reg h.2
  ·rfl
theorem walk_boxed {w w' : World} {p : List PS} {t : Ty} {c : List Value} (h : boxed p = true) : walk w t (.reg c) p = walk w' t (.reg c) p := by
 cases p with
 | nil => rfl
 | cons s p =>
  cases s <;> simp only [boxed, Bool.false_eq_true, Bool.not_eq_true'] at h
  cases t <;> try rfl
  simp only [walk, stepL, cellsAt]
  split
  ·rename_i t' L he
   split at he
   ·simp only [Option.some.injEq, Prod.mk.injEq] at he
    obtain ⟨rfl, rfl⟩ := he
    exact walk_flat_reg h
   ·simp at he
  ·rfl
theorem inB_flat : ∀ {p : List PS} {t : Ty} {x y : t.D}, jumps p = false → inB p t x → inB p t y
 | [], _, _, _, _, _ => by simp [inB]
 | .fst :: p, .pair _ _, _, _, h, k => by
  simp only [jumps, PS.jumps, Bool.false_or] at h; simp only [inB] at k ⊢; exact inB_flat h k
 | .snd :: p, .pair _ _, _, _, h, k => by
  simp only [jumps, PS.jumps, Bool.false_or] at h; simp only [inB] at k ⊢; exact inB_flat h k
 | .idx i :: p, .arr _ _, _, _, h, k => by
  simp only [jumps, PS.jumps, Bool.false_or] at h; simp only [inB] at k ⊢; exact ⟨k.1, inB_flat h k.2⟩
 | .der :: p, _, _, _, h, _ => by simp [jumps, PS.jumps] at h
 | .elm _ :: p, _, _, _, h, _ => by simp [jumps, PS.jumps] at h
 | .fst :: p, .int _, _, _, _, k | .fst :: p, .bool, _, _, _, k | .fst :: p, .str, _, _, _, k | .fst :: p, .fn, _, _, _, k | .fst :: p, .unit, _, _, _, k
 | .fst :: p, .sl _, _, _, _, k | .fst :: p, .ptr _, _, _, _, k | .fst :: p, .arr _ _, _, _, _, k => by simp [inB] at k
 | .snd :: p, .int _, _, _, _, k | .snd :: p, .bool, _, _, _, k | .snd :: p, .str, _, _, _, k | .snd :: p, .fn, _, _, _, k | .snd :: p, .unit, _, _, _, k
 | .snd :: p, .sl _, _, _, _, k | .snd :: p, .ptr _, _, _, _, k | .snd :: p, .arr _ _, _, _, _, k => by simp [inB] at k
 | .idx _ :: p, .int _, _, _, _, k | .idx _ :: p, .bool, _, _, _, k | .idx _ :: p, .str, _, _, _, k | .idx _ :: p, .fn, _, _, _, k | .idx _ :: p, .unit, _, _, _, k
 | .idx _ :: p, .sl _, _, _, _, k | .idx _ :: p, .ptr _, _, _, _, k | .idx _ :: p, .pair _ _, _, _, _, k => by simp [inB] at k
theorem inB_boxed {p : List PS} {t : Ty} {x y : t.D} (h : boxed p = true) (k : inB p t x) : inB p t y := by
 cases p with
 | nil => simp [inB]
 | cons s p =>
  cases s <;> simp only [boxed, Bool.false_eq_true, Bool.not_eq_true'] at h
  cases t <;> simp only [inB] at k ⊢
  exact inB_flat h k
section
variable {H : Nat → Option (List Value)} {N : Nat} {g g' : View} {V V' : Nat → Option Value} {w w' : World} {S S' : Nat → Prop} {β β' : Key → Option Nat}
theorem SVRel.at {i : Nat} {p : List PS} {dr d : Dat} (h : SVRel H N g V w S β i (.dat dr)) (hg : getP p dr.t dr.f dr.x = some d) (hb : inB p dr.t dr.x) (hn : d.f.base ≠ .gone) :
  ∃ cr L c, V i = some (valOf dr.t cr) ∧ cr.length = dr.t.size ∧ VRel S β H w [i] dr.t dr.f dr.x cr ∧ walk w dr.t (.reg cr) p = some (d.t, L) ∧ cellsAt w d.t.size L = some c ∧ VRel S β H w (i :: keyP p) d.t d.f d.x c := by
 obtain ⟨cr, hv, hV⟩ := h
 have hl := VRel_len hv
 obtain ⟨L, c, h1, h2, h3⟩ := walk_get (L := .reg cr) hg hb hn (by simp [cellsAt, hl]) hv
 exact ⟨cr, L, c, hV, hl, hv, h1, h2, h3⟩
theorem others {i : Nat} (hR : ∀ j, SVRel H N g V w S β j (g j).sv) (hS : ∀ b, S b → S' b ∧ w'.heap[b]? = w.heap[b]?)
  (hβ : ∀ j s b, j ≠ i → (g j).sv ≠ .dead → β (j :: s) = some b → β' (j :: s) = some b ∧ w'.heap[b]? = w.heap[b]?)
  (hg : ∀ j, j ≠ i → g' j = g j) (hV : ∀ j, j ≠ i → V' j = V j)
  (hc : (g i).c ≤ (g' i).c) (hs : (g i).s ≤ (g' i).s) (hu : (g i).u < (g' i).u)
  (hadr : ∀ p c s v, c ≤ (g i).c → s ≤ (g i).s → (okB g i p c s = true → AdrB g V w i p v) → okB g' i p c s = true → AdrB g' V' w' i p v)
  (hals : ∀ p c s v, c ≤ (g i).c → s ≤ (g i).s → (okA g i c s = true → AlsB g V w i p v) → okA g' i c s = true → AlsB g' V' w' i p v)
  (hclo : V' i = V i ∨ (g i).s < (g' i).s) {j : Nat} (hj : j ≠ i) : SVRel H N g' V' w' S' β' j (g j).sv := by
 have h := hR j
 have datR : ∀ {q dr}, q ≠ i → (g q).sv = .dat dr → ∀ {t f x c}, VRel S β H w [q] t f x c → VRel S' β' H w' [q] t f x c := fun {q dr} hq hd {t f x c} hv =>
  VRel_trans hS (fun s b hb => hβ q s b hq (by simp [hd]) hb) hv
 cases hv : (g j).sv with
 | dead => trivial
 | nils => rw [hv] at h; exact h
 | und => rw [hv] at h; simp only [SVRel] at h ⊢; rw [hV j hj]; exact h
 | unk => rw [hv] at h; simp only [SVRel] at h ⊢; rw [hV j hj]; exact h
 | dat d =>
  rw [hv] at h
  obtain ⟨c, h1, h2⟩ := h
  exact ⟨c, datR hj hv h1, by rw [hV j hj]; exact h2⟩
 | tup d =>
  rw [hv] at h
  obtain ⟨c, h1, h2⟩ := h
  exact ⟨c, VRel_trans hS (fun s b hb => hβ j s b hj (by simp [hv]) hb) h1, by rw [hV j hj]; exact h2⟩
 | adr r p c s =>
  rw [hv] at h
  obtain ⟨h0, h1, h2, h3⟩ := h
  simp only [SVRel]
  rw [hV j hj]
  refine ⟨h0, ?_⟩
  by_cases hr : r = i
  ·subst hr
   exact ⟨Nat.le_trans h1 hc, Nat.le_trans h2 hs, hadr p c s (V j) h1 h2 h3⟩
  ·refine ⟨by rw [hg r hr]; exact h1, by rw [hg r hr]; exact h2, fun hok dr hdr => ?_⟩
   rw [hg r hr] at hdr
   have hok' : okB g r p c s = true := by simp only [okB_iff, hg r hr] at hok ⊢; exact hok
   obtain ⟨cr, t, b, o, k1, k2, k3, k4, k5, k6⟩ := h3 hok' dr hdr
   refine ⟨cr, t, b, o, by rw [hV r hr]; exact k1, k2, ?_, k4, k5, k6⟩
   cases hbx : boxed p with
   | true => rw [walk_boxed (w' := w) hbx]; exact k3
   | false =>
    obtain ⟨d, hg1, hg2⟩ := k6 hbx
    have hr' := hR r
    rw [hdr] at hr'
    obtain ⟨c2, hv2, hV2⟩ := hr'
    have := valOf_inj (Option.some.inj (hV2.symm.trans k1)) (VRel_len hv2) k2
    subst this
    obtain ⟨L', c', e1, e2, _⟩ := walk_get2 (w' := w') (L := .reg c2) (fun b hb => (hS b hb).2) (fun s b hb => (hβ r s b hr (by simp [hdr]) hb).2) hg1 k5 hg2 (by simp [cellsAt, k2]) (by simp [cellsAt, k2]) hv2
    rw [k3] at e1
    simp only [Option.some.injEq, Prod.mk.injEq] at e1
    obtain ⟨rfl, rfl⟩ := e1
    exact e2
 | als r p c s =>
  rw [hv] at h
  obtain ⟨h0, h1, h2, h3⟩ := h
  simp only [SVRel]
  rw [hV j hj]
  refine ⟨h0, ?_⟩
  by_cases hr : r = i
  ·subst hr
   exact ⟨Nat.le_trans h1 hc, Nat.le_trans h2 hs, hals p c s (V j) h1 h2 h3⟩
  ·refine ⟨by rw [hg r hr]; exact h1, by rw [hg r hr]; exact h2, fun hok dr hdr => ?_⟩
   rw [hg r hr] at hdr
   have hok' : okA g r c s = true := by simp only [okA_iff, hg r hr] at hok ⊢; exact hok
   obtain ⟨cr, d, L, c', k1, k2, k3, k4, k5, k6, k7, k8⟩ := h3 hok' dr hdr
   have hr' := hR r
   rw [hdr] at hr'
   obtain ⟨c2, hv2, hV2⟩ := hr'
   have := valOf_inj (Option.some.inj (hV2.symm.trans k1)) (VRel_len hv2) k2
   subst this
   obtain ⟨L', c'', e1, e2, e3, e4, _⟩ := walk_get2 (w' := w') (L := .reg c2) (fun b hb => (hS b hb).2) (fun s b hb => (hβ r s b hr (by simp [hdr]) hb).2) k3 k5 k4 (by simp [cellsAt, k2]) (by simp [cellsAt, k2]) hv2
   rw [k6] at e1
   simp only [Option.some.injEq, Prod.mk.injEq, true_and] at e1
   subst e1
   rw [k7] at e3
   simp only [Option.some.injEq] at e3
   subst e3
   exact ⟨c2, d, L, c', by rw [hV r hr]; exact k1, k2, k3, k4, k5, e2, e4, k8⟩
 | pend r p c s u d =>
  rw [hv] at h
  obtain ⟨h0, h1, h2, h3, h4⟩ := h
  simp only [SVRel]
  rw [hV j hj]
  refine ⟨h0, ?_⟩
  by_cases hr : r = i
  ·subst hr
   refine ⟨Nat.le_trans h1 hc, Nat.le_trans h2 hs, by omega, fun hok => ?_⟩
   have := (okU_iff.1 hok).2
   omega
  ·refine ⟨by rw [hg r hr]; exact h1, by rw [hg r hr]; exact h2, by rw [hg r hr]; exact h3, fun hok dr hdr => ?_⟩
   rw [hg r hr] at hdr
   have hok' : okU g r c s u = true := by simp only [okU_iff, hg r hr] at hok ⊢; exact hok
   obtain ⟨k1, β2, cc, k2, k3, k4⟩ := h4 hok' dr hdr
   refine ⟨k1, ?_⟩
   have alive : ∀ s b, β (r :: s) = some b → β' (r :: s) = some b ∧ w'.heap[b]? = w.heap[b]? := fun s b hb => hβ r s b hr (by simp [hdr]) hb
   rcases k2 with rfl | ⟨b, hb, rfl⟩
   ·exact ⟨β', cc, .inl rfl, VRel_trans hS (fun s b hb => alive _ _ (by simpa using hb)) k3, k4⟩
   ·have hb' := hβ j [] b hj (by simp [hv]) hb
    refine ⟨repl β' (r :: keyP p) j b, cc, .inr ⟨b, hb'.1, rfl⟩, VRel_trans hS (fun s b2 hb2 => ?_) k3, k4⟩
    unfold repl at hb2 ⊢
    split at hb2
    ·rename_i e
     simp only [Option.some.injEq] at hb2; subst hb2
     rw [if_pos e]; exact ⟨rfl, hb'.2⟩
    ·rename_i e
     rw [if_neg e]
     split at hb2
     ·cases hb2
     ·rename_i e'
      rw [if_neg e']
      exact alive _ _ (by simpa using hb2)
 | clo f rs =>
  rw [hv] at h
  obtain ⟨h1, h2⟩ := h
  simp only [SVRel]
  rw [hV j hj]
  have hmem : ∀ x ∈ rs, (g x.1).s ≤ (g' x.1).s := fun x _ => by
   by_cases hx : x.1 = i
   ·rw [hx]; exact hs
   ·rw [hg _ hx]; exact Nat.le_refl _
  refine ⟨fun x hx => ⟨(h1 x hx).1, Nat.le_trans (h1 x hx).2 (hmem x hx)⟩, fun hall vs hvs => ?_⟩
  have hall' : ∀ x ∈ rs, (g x.1).s = x.2 := fun x hx => by have a := (h1 x hx).2; have b := hmem x hx; have c := hall x hx; omega
  refine h2 hall' vs ?_
  rw [← hvs]
  refine List.map_congr_left fun x hx => ?_
  by_cases e : x.1 = i
  ·rcases hclo with hc | hc
   ·rw [e]; exact hc.symm
   ·have a := hall' x hx; have b := hall x hx
    rw [e] at a b; omega
  ·exact (hV _ e).symm
theorem up_ne {u : Up} {j : Nat} (h : j ≠ u.slot) : g.up u j = g j := by
 simp [View.up, Nat.beq_eq, h]
theorem up_eq {u : Up} : g.up u u.slot = u.on (g u.slot) := by
 simp [View.up]
theorem Rel.put {i : Nat} {v : SV} (h : Rel H N g V w S β) (hs : Sane w' S' β') (hS : ∀ b, S b → S' b ∧ w'.heap[b]? = w.heap[b]?)
  (hβ : ∀ j s b, j ≠ i → (g j).sv ≠ .dead → β (j :: s) = some b → β' (j :: s) = some b ∧ w'.heap[b]? = w.heap[b]?)
  {V' : Nat → Option Value} (hV : ∀ j, j ≠ i → V' j = V j)
  (hn : SVRel H N (g.up (.put i v)) V' w' S' β' i v) : Rel H N (g.up (.put i v)) V' w' S' β' := by
 have e : ∀ s : Slot, Up.on (.put i v) s = ⟨v, s.c + 1, s.s + 1, s.u + 1⟩ := fun s => rfl
 have e' : (g.up (.put i v)) i = ⟨v, (g i).c + 1, (g i).s + 1, (g i).u + 1⟩ := up_eq (u := .put i v)
 refine ⟨hs, fun j => ?_⟩
 by_cases hj : j = i
 ·subst hj; rw [e']; exact hn
 ·have hg : ∀ j, j ≠ i → g.up (.put i v) j = g j := fun j hj => up_ne hj
  rw [hg j hj]
  refine others h.slots hS hβ hg hV (by rw [e']; simp) (by rw [e']; simp) (by rw [e']; simp) ?_ ?_ (.inr (by rw [e']; simp)) hj
  ·intro p c s v _ h2 _ hok
   have := (okB_iff.1 hok).1
   rw [e'] at this; simp at this; omega
  ·intro p c s v _ h2 _ hok
   have := (okA_iff.1 hok).2
   rw [e'] at this; simp at this; omega
theorem Rel.mod {i : Nat} {dr d : Dat} (h : Rel H N g V w S β) (hdr : (g i).sv = .dat dr) (ht : d.t = dr.t) (hs : Sane w' S' β') (hS : ∀ b, S b → S' b ∧ w'.heap[b]? = w.heap[b]?)
  (hβ : ∀ j s b, j ≠ i → (g j).sv ≠ .dead → β (j :: s) = some b → β' (j :: s) = some b ∧ w'.heap[b]? = w.heap[b]?)
  (hn : SVRel H N (g.up (.mod i (.dat d))) V w' S' β' i (.dat d)) : Rel H N (g.up (.mod i (.dat d))) V w' S' β' := by
 have e' : (g.up (.mod i (.dat d))) i = ⟨.dat d, (g i).c + 1, (g i).s, (g i).u + 1⟩ := up_eq (u := .mod i (.dat d))
 refine ⟨hs, fun j => ?_⟩
 by_cases hj : j = i
 ·subst hj; rw [e']; exact hn
 ·have hg : ∀ j, j ≠ i → g.up (.mod i (.dat d)) j = g j := fun j hj => up_ne hj
  rw [hg j hj]
  refine others h.slots hS hβ hg (fun _ _ => rfl) (by rw [e']; simp) (by rw [e']; exact Nat.le_refl _) (by rw [e']; simp) ?_ ?_ (.inl rfl) hj
  ·intro p c s v h1 h2 h3 hok
   have hk := okB_iff.1 hok
   rw [e'] at hk
   simp only at hk
   have hb : boxed p = true := by
    rcases hk.2 with hb | hb
    ·exact hb
    ·omega
   intro d2 hd2
   rw [e'] at hd2
   simp only [SV.dat.injEq] at hd2
   subst hd2
   obtain ⟨cr, t, b, o, k1, k2, k3, k4, k5, _⟩ := h3 (okB_iff.2 ⟨hk.1, .inl hb⟩) dr hdr
   obtain ⟨td, xd, fd⟩ := d
   simp only at ht
   subst ht
   exact ⟨cr, t, b, o, k1, k2, by rw [walk_boxed (w' := w) hb]; exact k3, k4, inB_boxed hb k5, fun hb' => by rw [hb] at hb'; cases hb'⟩
  ·intro p c s v h1 h2 h3 hok
   have := (okA_iff.1 hok).1
   rw [e'] at this; simp at this; omega
theorem Rel.pub {i : Nat} {dr : Dat} {f : Fl} (h : Rel H N g V w S β) (hdr : (g i).sv = .dat dr) (hs : Sane w' S' β') (hS : ∀ b, S b → S' b ∧ w'.heap[b]? = w.heap[b]?)
  (hβ : ∀ j s b, j ≠ i → (g j).sv ≠ .dead → β (j :: s) = some b → β' (j :: s) = some b ∧ w'.heap[b]? = w.heap[b]?)
  (hp : ∀ p d L cr c, getP p dr.t dr.f dr.x = some d → d.f.base ≠ .gone → inB p dr.t dr.x → V i = some (valOf dr.t cr) → VRel S β H w [i] dr.t dr.f dr.x cr → walk w dr.t (.reg cr) p = some (d.t, L) → cellsAt w d.t.size L = some c →
   (∃ f', getP p dr.t f dr.x = some ⟨d.t, d.x, f'⟩ ∧ f'.base ≠ .gone) ∧ walk w' dr.t (.reg cr) p = some (d.t, L) ∧ cellsAt w' d.t.size L = some c)
  (hn : SVRel H N (g.up (.pub i (.dat ⟨dr.t, dr.x, f⟩))) V w' S' β' i (.dat ⟨dr.t, dr.x, f⟩)) : Rel H N (g.up (.pub i (.dat ⟨dr.t, dr.x, f⟩))) V w' S' β' := by
 have e' : (g.up (.pub i (.dat ⟨dr.t, dr.x, f⟩))) i = ⟨.dat ⟨dr.t, dr.x, f⟩, (g i).c, (g i).s, (g i).u + 1⟩ := up_eq (u := .pub i (.dat ⟨dr.t, dr.x, f⟩))
 refine ⟨hs, fun j => ?_⟩
 by_cases hj : j = i
 ·subst hj; rw [e']; exact hn
 ·have hg : ∀ j, j ≠ i → g.up (.pub i (.dat ⟨dr.t, dr.x, f⟩)) j = g j := fun j hj => up_ne hj
  rw [hg j hj]
  have hi := h.slots i
  rw [hdr] at hi
  refine others h.slots hS hβ hg (fun _ _ => rfl) (by rw [e']; exact Nat.le_refl _) (by rw [e']; exact Nat.le_refl _) (by rw [e']; simp) ?_ ?_ (.inl rfl) hj
  ·intro p c s v h1 h2 h3 hok d2 hd2
   have hk := okB_iff.1 hok
   rw [e'] at hk hd2
   simp only [SV.dat.injEq] at hd2
   subst hd2
   obtain ⟨cr, t, b, o, k1, k2, k3, k4, k5, k6⟩ := h3 (okB_iff.2 hk) dr hdr
   cases hb : boxed p with
   | true => exact ⟨cr, t, b, o, k1, k2, by rw [walk_boxed (w' := w) hb]; exact k3, k4, k5, fun hb' => by cases hb'⟩
   | false =>
    obtain ⟨d, hd1, hd2⟩ := k6 hb
    obtain ⟨cr', L, c', q1, q2, q3, q4, q5, _⟩ := hi.at hd1 k5 hd2
    have := valOf_inj (Option.some.inj (q1.symm.trans k1)) q2 k2
    subst this
    obtain ⟨⟨f', hf1, hf2⟩, hw', hc'⟩ := hp p d L cr' c' hd1 hd2 k5 q1 q3 q4 q5
    rw [k3] at q4
    simp only [Option.some.injEq, Prod.mk.injEq] at q4
    obtain ⟨rfl, rfl⟩ := q4
    exact ⟨cr', d.t, b, o, k1, k2, hw', k4, k5, fun _ => ⟨_, hf1, hf2⟩⟩
  ·intro p c s v h1 h2 h3 hok d2 hd2
   have hk := okA_iff.1 hok
   rw [e'] at hk hd2
   simp only [SV.dat.injEq] at hd2
   subst hd2
   obtain ⟨cr, d, L, c', k1, k2, k3, k4, k5, k6, k7, k8⟩ := h3 (okA_iff.2 hk) dr hdr
   obtain ⟨cr', L', c'', q1, q2, q3, q4, q5, _⟩ := hi.at k3 k5 k4
   have := valOf_inj (Option.some.inj (q1.symm.trans k1)) q2 k2
   subst this
   obtain ⟨⟨f', hf1, hf2⟩, hw', hc'⟩ := hp p d L cr' c' k3 k4 k5 q1 q3 k6 k7
   exact ⟨cr', ⟨d.t, d.x, f'⟩, L, c', k1, k2, hf1, hf2, k5, hw', hc', k8⟩
end
end Go.Rf

end
section
namespace Go.Rf
set_option linter.unusedSectionVars false
variable [T : Laid]
def Sub (g σ : View) : Prop := ∀ i, (g i).sv = .dead ∨ σ i = g i
section
variable {g σ : View}
theorem Sub.get (h : Sub g σ) {i : Nat} {v : SV} (hv : (g i).sv = v) (hn : v ≠ .dead) : σ i = g i := (h i).resolve_left (fun e => hn (hv.symm.trans e))
theorem Sub.sv (h : Sub g σ) {x : Operand} {v : SV} (hv : sv g x = v) (hn : v ≠ .dead) : sv σ x = v := by
 unfold Rf.sv at hv ⊢
 split at hv <;> first | exact hv | skip
 rw [h.get hv hn]; exact hv
theorem Sub.atP (h : Sub g σ) {r : Nat} {p : List PS} {d : Dat} (hd : atP g r p = some d) : atP σ r p = some d ∧ σ r = g r := by
 unfold Rf.atP at hd ⊢
 split at hd
 ·rename_i e he
  have := h.get he (by simp)
  rw [this, he]; exact ⟨hd, rfl⟩
 ·cases hd
theorem Sub.okA {r c s : Nat} (hr : σ r = g r) : okA σ r c s = okA g r c s := by unfold Rf.okA; rw [hr]
theorem Sub.okU {r c s u : Nat} (hr : σ r = g r) : okU σ r c s u = okU g r c s u := by unfold Rf.okU; rw [Sub.okA hr, hr]
theorem Sub.okB {r c s : Nat} {p : List PS} (hr : σ r = g r) : okB σ r p c s = okB g r p c s := by unfold Rf.okB; rw [hr]
theorem Sub.upD (h : Sub g σ) {s : Nat} : Sub (g.up (.put s .dead)) (σ.up (.put s .dead)) := fun i => by
 by_cases e : i = s
 ·left; subst e; rw [show g.up (.put i .dead) i = _ from up_eq (u := .put i .dead)]; rfl
 ·rw [up_ne (u := .put s .dead) e, up_ne (u := .put s .dead) e]; exact h i
theorem Sub.up (h : Sub g σ) {u : Up} (hu : (g u.slot).sv ≠ .dead) : Sub (g.up u) (σ.up u) := fun i => by
 by_cases e : i = u.slot
 ·right; subst e; rw [up_eq, up_eq, h.get rfl hu]
 ·rw [up_ne e, up_ne e]; exact h i
theorem atP_some {r : Nat} {p : List PS} {d : Dat} (h : atP g r p = some d) : ∃ e, (g r).sv = .dat e ∧ getP p e.t e.f e.x = some d := by
 unfold atP at h
 split at h
 ·rename_i e he; exact ⟨e, he, h⟩
 ·cases h
end
theorem getP_append : ∀ {p q : List PS} {t : Ty} {f : Fl} {x : t.D} {d : Dat}, getP p t f x = some d → getP (p ++ q) t f x = getP q d.t d.f d.x
 | [], _, _, _, _, _, h => by simp only [getP, Option.some.injEq] at h; subst h; rfl
 | .fst :: p, _, .pair a _, f, _, d, h => by simp only [getP, List.cons_append] at h ⊢; exact getP_append h
 | .snd :: p, _, .pair a _, f, _, d, h => by simp only [getP, List.cons_append] at h ⊢; exact getP_append h
 | .der :: p, _, .ptr _, f, _, d, h => by simp only [getP, List.cons_append] at h ⊢; exact getP_append h
 | .idx i :: p, _, .arr _ _, f, _, d, h => by simp only [getP, List.cons_append] at h ⊢; exact getP_append h
 | .elm i :: p, _, .sl _, f, _, d, h => by simp only [getP, List.cons_append] at h ⊢; exact getP_append h
theorem inB_append : ∀ {p q : List PS} {t : Ty} {f : Fl} {x : t.D} {d : Dat}, getP p t f x = some d → inB p t x → inB q d.t d.x → inB (p ++ q) t x
 | [], _, _, _, _, _, h, _, k => by simp only [getP, Option.some.injEq] at h; subst h; exact k
 | .fst :: p, _, .pair a _, f, _, d, h, h', k => by simp only [getP, List.cons_append, inB] at h h' ⊢; exact inB_append h h' k
 | .snd :: p, _, .pair a _, f, _, d, h, h', k => by simp only [getP, List.cons_append, inB] at h h' ⊢; exact inB_append h h' k
 | .der :: p, _, .ptr _, f, _, d, h, h', k => by simp only [getP, List.cons_append, inB] at h h' ⊢; exact inB_append h h' k
 | .idx i :: p, _, .arr _ _, f, _, d, h, h', k => by simp only [getP, List.cons_append, inB] at h h' ⊢; exact ⟨h'.1, inB_append h h'.2 k⟩
 | .elm i :: p, _, .sl _, f, _, d, h, h', k => by simp only [getP, List.cons_append, inB] at h h' ⊢; exact ⟨h'.1, inB_append h h'.2 k⟩
theorem walk_append {w : World} : ∀ {p q : List PS} {t t' : Ty} {L L' : Loc}, walk w t L p = some (t', L') → walk w t L (p ++ q) = walk w t' L' q
 | [], _, _, _, _, _, h => by simp only [walk, Option.some.injEq, Prod.mk.injEq] at h; obtain ⟨rfl, rfl⟩ := h; rfl
 | s :: p, q, t, t', L, L', h => by
  simp only [walk, List.cons_append] at h ⊢
  split at h
  ·rename_i t1 L1 he; exact walk_append h
  ·cases h
theorem keyP_append : ∀ {p q : List PS}, keyP (p ++ q) = keyP p ++ keyP q
 | [], _ => rfl
 | .fst :: p, q | .snd :: p, q | .der :: p, q | .idx _ :: p, q | .elm _ :: p, q => by simp [keyP, keyP_append (p := p) (q := q)]
theorem jumps_append : ∀ {p q : List PS}, jumps (p ++ q) = (jumps p || jumps q)
 | [], q => by simp [jumps]
 | s :: p, q => by simp [jumps, jumps_append (p := p) (q := q), Bool.or_assoc]
theorem boxed_append {p q : List PS} (h : boxed p = true) (hq : jumps q = false) : boxed (p ++ q) = true := by
 cases p with
 | nil => simp [boxed] at h
 | cons s p => cases s <;> simp_all [boxed, jumps_append]
theorem walk_ty {w : World} : ∀ {p : List PS} {t : Ty} {f : Fl} {x : t.D} {d : Dat} {t' : Ty} {L L' : Loc}, getP p t f x = some d → walk w t L p = some (t', L') → t' = d.t
 | [], _, _, _, _, _, _, _, h, k => by simp only [getP, Option.some.injEq, walk, Prod.mk.injEq] at h k; subst h; exact k.1.symm
 | .fst :: p, .pair a _, f, _, d, _, _, _, h, k => by simp only [getP, walk, stepL] at h k; exact walk_ty h k
 | .snd :: p, .pair a _, f, _, d, _, _, _, h, k => by simp only [getP, walk, stepL] at h k; exact walk_ty h k
 | .der :: p, .ptr t, f, _, d, _, _, _, h, k => by
  simp only [getP, walk, stepL] at h k
  split at k
  ·rename_i t1 L1 he
   split at he
   ·simp only [Option.some.injEq, Prod.mk.injEq] at he; obtain ⟨rfl, rfl⟩ := he; exact walk_ty h k
   ·cases he
  ·cases k
 | .idx i :: p, .arr _ _, f, _, d, _, _, _, h, k => by
  simp only [getP, walk, stepL] at h k
  split at k
  ·rename_i t1 L1 he
   split at he
   ·simp only [Option.some.injEq, Prod.mk.injEq] at he; obtain ⟨rfl, rfl⟩ := he; exact walk_ty h k
   ·cases he
  ·cases k
 | .elm i :: p, .sl _, f, _, d, _, _, _, h, k => by
  simp only [getP, walk, stepL] at h k
  split at k
  ·rename_i t1 L1 he
   split at he
   ·split at he
    ·simp only [Option.some.injEq, Prod.mk.injEq] at he; obtain ⟨rfl, rfl⟩ := he; exact walk_ty h k
    ·cases he
   ·cases he
  ·cases k
def evl (V : Nat → Option Value) : Operand → Option Value
 | .tmp s => V s
 | .const v => some v
 | .func f => some (.func (.func f) #[] #[])
 | .global _ => none
section
variable {H : Nat → Option (List Value)} {N : Nat} {g g' : View} {V V' : Nat → Option Value} {w w' : World} {S S' : Nat → Prop} {β β' : Key → Option Nat}
theorem Rel.kill {i : Nat} (h : Rel H N g V w S β) (hV : ∀ j, j ≠ i → V' j = V j) : Rel H N (g.up (.put i .dead)) V' w S β :=
 h.put h.sane (fun b hb => ⟨hb, rfl⟩) (fun j s b _ _ hb => ⟨hb, rfl⟩) hV trivial
theorem Rel.dat (h : Rel H N g V w S β) {i : Nat} {d : Dat} (hd : (g i).sv = .dat d) : SVRel H N g V w S β i (.dat d) := by have := h.slots i; rwa [hd] at this
theorem Rel.fin (h : Rel H N g V w S β) (h1 : ∀ i, i < N → g' i = g i) (h2 : ∀ i, N ≤ i → (g' i).sv = .dead) (h3 : ∀ i, i < N → V' i = V i) : Rel H N g' V' w S β := by
 refine ⟨h.sane, fun i => ?_⟩
 by_cases hi : i < N
 ·have hs := h.slots i
  rw [h1 i hi]
  cases hv : (g i).sv with
  | dead => trivial
  | nils => rw [hv] at hs; exact hs
  | und => rw [hv] at hs; simp only [SVRel] at hs ⊢; rw [h3 i hi]; exact hs
  | unk => rw [hv] at hs; simp only [SVRel] at hs ⊢; rw [h3 i hi]; exact hs
  | dat d => rw [hv] at hs; simp only [SVRel] at hs ⊢; rw [h3 i hi]; exact hs
  | tup d => rw [hv] at hs; simp only [SVRel] at hs ⊢; rw [h3 i hi]; exact hs
  | adr r p c s =>
   rw [hv] at hs; simp only [SVRel] at hs ⊢
   obtain ⟨k0, k1, k2, k3⟩ := hs
   have hr := h1 r k0
   refine ⟨k0, by rw [hr]; exact k1, by rw [hr]; exact k2, fun ok => ?_⟩
   rw [Sub.okB hr] at ok
   intro dr hdr
   rw [hr] at hdr
   have := k3 ok dr hdr
   rw [h3 r k0, h3 i hi]
   exact this
  | als r p c s =>
   rw [hv] at hs; simp only [SVRel] at hs ⊢
   obtain ⟨k0, k1, k2, k3⟩ := hs
   have hr := h1 r k0
   refine ⟨k0, by rw [hr]; exact k1, by rw [hr]; exact k2, fun ok => ?_⟩
   rw [Sub.okA hr] at ok
   intro dr hdr
   rw [hr] at hdr
   have := k3 ok dr hdr
   rw [h3 r k0, h3 i hi]
   exact this
  | pend r p c s u d =>
   rw [hv] at hs; simp only [SVRel] at hs ⊢
   obtain ⟨k0, k1, k2, k3, k4⟩ := hs
   have hr := h1 r k0
   refine ⟨k0, by rw [hr]; exact k1, by rw [hr]; exact k2, by rw [hr]; exact k3, fun ok => ?_⟩
   rw [Sub.okU hr] at ok
   intro dr hdr
   rw [hr] at hdr
   have := k4 ok dr hdr
   rw [h3 i hi]
   exact this
  | clo f rs =>
   rw [hv] at hs; simp only [SVRel] at hs ⊢
   obtain ⟨k1, k2⟩ := hs
   refine ⟨fun x hx => ⟨(k1 x hx).1, by rw [h1 _ (k1 x hx).1]; exact (k1 x hx).2⟩, fun hall vs hvs => ?_⟩
   rw [h3 i hi]
   refine k2 (fun x hx => by rw [← h1 _ (k1 x hx).1]; exact hall x hx) vs ?_
   rw [← hvs]
   exact List.map_congr_left fun x hx => (h3 _ (k1 x hx).1).symm
 ·rw [h2 i (by omega)]; trivial
theorem ownsK_sh {t : Ty} {s : Key} : ownsK t .sh s = false := by cases t <;> simp [ownsK, Fl.base]
theorem mkpr_or (g h : Fl) : (g = .sh ∧ h = .sh ∧ Fl.mkpr g h = .sh) ∨ Fl.mkpr g h = .pr g h := by
 unfold Fl.mkpr; split
 ·exact .inl ⟨rfl, rfl, rfl⟩
 ·exact .inr rfl
theorem mkar_or (g : Fl) : (g = .sh ∧ Fl.mkar g = .sh) ∨ Fl.mkar g = .ar g := by
 unfold Fl.mkar; split
 ·exact .inl ⟨rfl, rfl⟩
 ·exact .inr rfl
theorem ownsK_fst {a b : Ty} {f g h : Fl} {s : Key} : ownsK (.pair a b) (Fl.wrap f (.mkpr g h)) (0 :: s) = ownsK a g s := by
 simp only [ownsK, wrap_base, mkpr_base]
 rcases mkpr_or g h with ⟨e1, e2, e⟩ | e <;> rw [e]
 rw [e1, ownsK_sh]
theorem ownsK_snd {a b : Ty} {f g h : Fl} {s : Key} : ownsK (.pair a b) (Fl.wrap f (.mkpr g h)) (1 :: s) = ownsK b h s := by
 simp only [ownsK, wrap_base, mkpr_base]
 rcases mkpr_or g h with ⟨e1, e2, e⟩ | e <;> rw [e]
 rw [e2, ownsK_sh]
theorem ownsK_arr {n i : Nat} {t : Ty} {f g : Fl} {s : Key} : ownsK (.arr n t) (Fl.wrap f (.mkar g)) (i :: s) = ownsK t g s := by
 simp only [ownsK, wrap_base, mkar_base]
 rcases mkar_or g with ⟨e1, e⟩ | e <;> rw [e]
 rw [e1, ownsK_sh]
theorem ownsK_derF {f g : Fl} : (derF f g).base = .sh ∨ (derF f g).base = .own g := by
 unfold derF; split
 ·exact .inl rfl
 ·exact .inr rfl
theorem ownsK_setF : ∀ {p : List PS} {t : Ty} {f : Fl} {x : t.D} {d : Dat} {s : Key}, getP p t f x = some d → ownsK t (setF p f .sh) (keyP p ++ s) = false
 | [], t, f, x, d, s, h => by simp only [setF, keyP]; exact ownsK_sh
 | .fst :: p, .pair a b, f, x, d, s, h => by
  simp only [getP] at h
  simp only [setF, keyP, List.cons_append, ownsK_fst]
  exact ownsK_setF h
 | .snd :: p, .pair a b, f, x, d, s, h => by
  simp only [getP] at h
  simp only [setF, keyP, List.cons_append, ownsK_snd]
  exact ownsK_setF h
 | .idx i :: p, .arr n t, f, x, d, s, h => by
  simp only [getP] at h
  simp only [setF, keyP, List.cons_append, ownsK_arr]
  exact ownsK_setF h
 | .der :: p, .ptr t, f, x, d, s, h => by
  simp only [getP] at h
  have ih := ownsK_setF (s := s) h
  simp only [setF, keyP, List.cons_append, ownsK, wrap_base]
  rcases ownsK_derF (f := f) (g := setF p f.e .sh) with e | e <;> rw [e]
  exact ih
 | .elm i :: p, .sl t, f, x, d, s, h => by
  simp only [getP] at h
  have ih := ownsK_setF (s := s) h
  simp only [setF, keyP, List.cons_append, ownsK, wrap_base]
  rcases ownsK_derF (f := f) (g := setF p f.e .sh) with e | e <;> rw [e]
  exact ih
def pubS (S : Nat → Prop) (β : Key → Option Nat) (r : Nat) (t : Ty) (f : Fl) : Nat → Prop := fun b => S b ∨ ∃ s, β (r :: s) = some b ∧ ownsK t f s = false
def pubβ (β : Key → Option Nat) (r : Nat) (t : Ty) (f : Fl) : Key → Option Nat
 | j :: s => if j = r ∧ ownsK t f s = false then none else β (j :: s)
 | [] => β []
theorem pubβ_sub {r : Nat} {t : Ty} {f : Fl} {k : Key} {b : Nat} (h : pubβ β r t f k = some b) : β k = some b := by
 cases k with
 | nil => exact h
 | cons j s => simp only [pubβ] at h; split at h; cases h; exact h
theorem Sane.pub (h : Sane w S β) (r : Nat) (t : Ty) (f : Fl) : Sane w (pubS S β r t f) (pubβ β r t f) where
 tab := h.tabs fun b hb => ⟨.inl hb, rfl⟩
 inj k k' b h1 h2 := h.inj k k' b (pubβ_sub h1) (pubβ_sub h2)
 sep k b h1 h2 := by
  rcases h2 with h2 | ⟨s, h2, h3⟩
  ·exact h.sep k b (pubβ_sub h1) h2
  ·have := h.inj _ _ _ (pubβ_sub h1) h2
   subst this
   simp [pubβ, h3] at h1
 live k b h1 := h.live k b (pubβ_sub h1)
 liveS b hb := by
  rcases hb with hb | ⟨s, hb, _⟩
  ·exact h.liveS b hb
  ·exact h.live _ b hb
theorem Step.pub (r : Nat) (t : Ty) (f : Fl) : Step w S β w (pubS S β r t f) (pubβ β r t f) where
 size := Nat.le_refl _
 old _ _ _ := rfl
 new k b hb := .inl ⟨k, pubβ_sub hb⟩
 keepS _ hb := .inl hb
 newS b hb := hb.elim .inl fun ⟨s, h, _⟩ => .inr (.inl ⟨_, h⟩)
 out := .rfl'
theorem Rel.weaken {r : Nat} {e : Dat} {f : Fl} (h : Rel H N g V w S β) (he : (g r).sv = .dat e) (hf : Fl.le f e.f = true)
  (hp : ∀ p d, getP p e.t e.f e.x = some d → d.f.base ≠ .gone → ∃ f', getP p e.t f e.x = some ⟨d.t, d.x, f'⟩ ∧ f'.base ≠ .gone) :
  Rel H N (g.up (.pub r (.dat ⟨e.t, e.x, f⟩))) V w (pubS S β r e.t f) (pubβ β r e.t f) := by
 refine h.pub he (h.sane.pub r e.t f) (fun b hb => ⟨.inl hb, rfl⟩) (fun j s b hj _ hb => ⟨by simp [pubβ, hj, hb], rfl⟩) (fun p d L cr c h1 h2 _ _ _ h4 h5 => ⟨hp p d h1 h2, h4, h5⟩) ?_
 obtain ⟨c, hv, hV⟩ := h.dat he
 refine ⟨c, ?_, hV⟩
 refine VRel_le (fun b hb => ⟨.inl hb, rfl⟩) hf (fun s b hb => ⟨rfl, fun ho => ?_, fun ho => .inr ⟨s, hb, ho⟩⟩) hv
 simp only [List.cons_append, List.nil_append] at hb ⊢
 simp [pubβ, ho, hb]
theorem Rel.publish {r : Nat} {p : List PS} {e d : Dat} (h : Rel H N g V w S β) (he : (g r).sv = .dat e) (hg : getP p e.t e.f e.x = some d) (hw : d.f.whole = true) :
  Rel H N (g.up (.pub r (.dat ⟨e.t, e.x, setF p e.f .sh⟩))) V w (pubS S β r e.t (setF p e.f .sh)) (pubβ β r e.t (setF p e.f .sh)) :=
 h.weaken he (le_setF hg (whole_base hw) (by rw [le_sh]; exact hw)) (fun _ _ h1 h2 => getP_setF hg (whole_base hw) h1 h2)
theorem read_pub {r : Nat} {p : List PS} {e d : Dat} {c : List Value} (hg : getP p e.t e.f e.x = some d) (hw : d.f.whole = true) (hv : VRel S β H w (r :: keyP p) d.t d.f d.x c) :
  Rd (pubS S β r e.t (setF p e.f .sh)) w d.t d.x c :=
 VRel_read hw (fun _ => .inl) (fun s b hb => .inr ⟨keyP p ++ s, by simpa using hb, ownsK_setF hg⟩) hv
def rekey (β : Key → Option Nat) (src dst : Key) : Key → Option Nat := fun k =>
 match strip dst k with
 | some s => β (src ++ s)
 | none => match strip src k with
  | some _ => none
  | none => β k
theorem rekey_dst {src dst s : Key} : rekey β src dst (dst ++ s) = β (src ++ s) := by simp [rekey, strip_app]
theorem rekey_else {src dst k : Key} (h1 : strip dst k = none) (h2 : strip src k = none) : rekey β src dst k = β k := by simp [rekey, h1, h2]
theorem rekey_cases {src dst k : Key} {b : Nat} (h : rekey β src dst k = some b) : (∃ s, k = dst ++ s ∧ β (src ++ s) = some b) ∨ (strip dst k = none ∧ strip src k = none ∧ β k = some b) := by
 unfold rekey at h
 split at h
 ·rename_i s hs; exact .inl ⟨s, strip_some.1 hs, h⟩
 ·rename_i h1
  split at h
  ·cases h
  ·rename_i h2; exact .inr ⟨h1, h2, h⟩
theorem rekey_sub {src dst k : Key} {b : Nat} (h : rekey β src dst k = some b) : ∃ k', β k' = some b := by
 rcases rekey_cases h with ⟨s, _, h⟩ | ⟨_, _, h⟩ <;> exact ⟨_, h⟩
theorem Sane.rekey (h : Sane w S β) (src dst : Key) : Sane w S (rekey β src dst) where
 tab := h.tab
 inj k k' b h1 h2 := by
  rcases rekey_cases h1 with ⟨s, e, q1⟩ | ⟨a1, a2, q1⟩ <;> rcases rekey_cases h2 with ⟨s', e', q2⟩ | ⟨b1, b2, q2⟩
  ·have := h.inj _ _ _ q1 q2; rw [List.append_cancel_left_eq] at this; rw [e, e', this]
  ·exact absurd (h.inj _ _ _ q2 q1) (strip_none b2 s)
  ·exact absurd (h.inj _ _ _ q1 q2) (strip_none a2 s')
  ·exact h.inj _ _ _ q1 q2
 sep k b h1 := let ⟨k', h'⟩ := rekey_sub h1; h.sep k' b h'
 live k b h1 := let ⟨k', h'⟩ := rekey_sub h1; h.live k' b h'
 liveS := h.liveS
theorem Step.rekey (src dst : Key) : Step w S β w S (rekey β src dst) where
 size := Nat.le_refl _
 old _ _ _ := rfl
 new _ _ hb := .inl (rekey_sub hb)
 keepS _ hb := hb
 newS _ hb := .inl hb
 out := .rfl'
theorem strip_head {j r : Nat} {s k : Key} (h : j ≠ r) : strip (r :: k) (j :: s) = none := by simp [strip, Ne.symm h]
end
end Go.Rf

end
section
namespace Go.Rf
set_option linter.unusedSectionVars false
variable [T : Laid]
theorem View.up_comm {g : View} {u v : Up} (h : u.slot ≠ v.slot) : (g.up u).up v = (g.up v).up u := by
 funext i
 by_cases h1 : i = v.slot
 ·have h2 : i ≠ u.slot := fun e => h (e.symm.trans h1)
  subst h1
  rw [up_eq, up_ne h2, up_ne h2, up_eq]
 ·rw [up_ne h1]
  by_cases h2 : i = u.slot
  ·subst h2; rw [up_eq, up_eq, up_ne h1]
  ·rw [up_ne h2, up_ne h2, up_ne h1]
section
variable {g σ : View} (hs : Sub g σ)
include hs
theorem Sub.ups1 {u : Up} (hu : (g u.slot).sv ≠ .dead) : Sub (g.ups [u]) (σ.ups [u]) := hs.up hu
theorem take_mono {mv : Bool} {t : Option Ty} {x : Operand} {d : Dat} {us : List Up} (h : take g mv t x (sv g x) = some (d, us)) :
  take σ mv t x (sv σ x) = some (d, us) ∧ Sub (g.ups us) (σ.ups us) := by
 cases hv : sv g x with
 | dead => rw [hv] at h; simp [take] at h
 | und => rw [hv] at h; simp [take] at h
 | unk => rw [hv] at h; simp [take] at h
 | tup d => rw [hv] at h; simp [take] at h
 | adr _ _ _ _ => rw [hv] at h; simp [take] at h
 | nils =>
  rw [hs.sv hv (by simp)]
  rw [hv] at h
  refine ⟨h, ?_⟩
  simp only [take] at h
  split at h
  ·simp only [Option.some.injEq, Prod.mk.injEq] at h; rw [← h.2]; exact hs
  ·cases h
 | clo f rs =>
  rw [hs.sv hv (by simp)]
  rw [hv] at h
  cases rs with
  | nil =>
   refine ⟨h, ?_⟩
   simp only [take, Option.some.injEq, Prod.mk.injEq] at h; rw [← h.2]; exact hs
  | cons a rs => simp [take] at h
 | dat e =>
  rw [hs.sv hv (by simp)]
  rw [hv] at h
  refine ⟨h, ?_⟩
  simp only [take] at h
  split at h
  ·simp only [Option.some.injEq, Prod.mk.injEq] at h; rw [← h.2]; exact hs
  ·split at h
   ·split at h
    ·simp only [Option.some.injEq, Prod.mk.injEq] at h; rw [← h.2]; exact hs.upD
    ·cases h
   ·cases h
 | als r p c s =>
  rw [hs.sv hv (by simp)]
  rw [hv] at h
  simp only [take] at h
  split at h
  ·rename_i hok
   split at h
   ·rename_i e he
    have hr := hs.get he (by simp)
    simp only [take, Sub.okA hr, hok, if_true, hr, he]
    refine ⟨h, ?_⟩
    split at h
    ·split at h
     ·simp only [Option.some.injEq, Prod.mk.injEq] at h; rw [← h.2]; exact hs
     ·split at h
      ·split at h <;> simp only [Option.some.injEq, Prod.mk.injEq] at h <;> rw [← h.2] <;> exact hs.up (by simp [Up.slot, he])
      ·cases h
    ·cases h
   ·cases h
  ·cases h
 | pend r p c s u e =>
  rw [hs.sv hv (by simp)]
  rw [hv] at h
  simp only [take] at h
  split at h
  ·rename_i x j
   split at h
   ·rename_i hok
    split at h
    ·rename_i e' he
     have hr := hs.get he (by simp)
     simp only [take, Sub.okU hr, hok, if_true, hr, he]
     refine ⟨h, ?_⟩
     simp only [Option.some.injEq, Prod.mk.injEq] at h
     rw [← h.2]
     exact (hs.up (u := .mod r (.dat ⟨e'.t, e'.x, setF p e'.f .gone⟩)) (by simp [Up.slot, he])).upD
    ·cases h
   ·cases h
  ·cases h
theorem dataOf_mono {x : Operand} {d : Dat} (h : dataOf g (sv g x) = some d) : dataOf σ (sv σ x) = some d := by
 cases hv : sv g x with
 | dead => rw [hv] at h; simp [dataOf] at h
 | und => rw [hv] at h; simp [dataOf] at h
 | unk => rw [hv] at h; simp [dataOf] at h
 | tup d => rw [hv] at h; simp [dataOf] at h
 | adr _ _ _ _ => rw [hv] at h; simp [dataOf] at h
 | nils => rw [hv] at h; simp [dataOf] at h
 | dat e => rw [hs.sv hv (by simp)]; rw [hv] at h; exact h
 | clo f rs =>
  rw [hs.sv hv (by simp)]; rw [hv] at h
  simp only [dataOf, Option.map_eq_some_iff] at h ⊢
  obtain ⟨cs, h, rfl⟩ := h
  refine ⟨cs, ?_, rfl⟩
  clear hv
  revert cs
  induction rs with
  | nil => intro cs h; exact h
  | cons a rs ih =>
   obtain ⟨r, s⟩ := a
   intro cs h
   simp only [capsOf] at h ⊢
   split at h
   ·rename_i k n f he
    rw [hs.get he (by simp), he]
    split at h
    ·rename_i hok
     simp only [Option.map_eq_some_iff] at h
     obtain ⟨cs', h, rfl⟩ := h
     simp only [hok, if_true, ih _ h, Option.map_some]
    ·cases h
   ·rename_i k n f he
    rw [hs.get he (by simp), he]
    split at h
    ·rename_i hok
     simp only [Option.map_eq_some_iff] at h
     obtain ⟨cs', h, rfl⟩ := h
     simp only [hok, if_true, ih _ h, Option.map_some]
    ·cases h
   ·cases h
 | als r p c s =>
  rw [hs.sv hv (by simp)]; rw [hv] at h
  simp only [dataOf] at h ⊢
  split at h
  ·rename_i hok
   split at h
   ·rename_i e he
    obtain ⟨he', hr⟩ := hs.atP he
    simp only [Sub.okA hr, hok, if_true, he']; exact h
   ·cases h
  ·cases h
 | pend r p c s u e =>
  rw [hs.sv hv (by simp)]; rw [hv] at h
  simp only [dataOf] at h ⊢
  split at h
  ·rename_i hok
   split at h
   ·rename_i e' he
    have hr := hs.get he (by simp)
    simp only [Sub.okU hr, hok, if_true, hr, he]; exact h
   ·cases h
  ·cases h
theorem placeOf_mono {x : Operand} {q : Pl} {d : Dat} (h : placeOf g x (sv g x) = some q) (hd : atP g q.1 q.2 = some d) : placeOf σ x (sv σ x) = some q ∧ atP σ q.1 q.2 = some d ∧ σ q.1 = g q.1 := by
 refine ⟨?_, hs.atP hd⟩
 cases hv : sv g x with
 | dat e => rw [hs.sv hv (by simp)]; rw [hv] at h; exact h
 | als r p c s =>
  rw [hs.sv hv (by simp)]; rw [hv] at h
  simp only [placeOf] at h ⊢
  split at h
  ·rename_i hok
   simp only [Option.some.injEq] at h; subst h
   rw [Sub.okA (hs.atP hd).2, hok]; rfl
  ·cases h
 | _ => rw [hv] at h; simp [placeOf] at h
theorem target_mono {x : Operand} {q : Pl} {d : Dat} (h : target g x (sv g x) = some q) (hd : atP g q.1 q.2 = some d) : target σ x (sv σ x) = some q ∧ atP σ q.1 q.2 = some d ∧ σ q.1 = g q.1 := by
 refine ⟨?_, hs.atP hd⟩
 cases hv : sv g x with
 | dat e =>
  rw [hs.sv hv (by simp)]; rw [hv] at h; obtain ⟨t, y, f⟩ := e; cases t <;> exact h
 | adr r p c s =>
  rw [hs.sv hv (by simp)]; rw [hv] at h
  simp only [target] at h ⊢
  split at h
  ·rename_i hok
   simp only [Option.some.injEq] at h; subst h
   rw [Sub.okB (hs.atP hd).2, hok]; rfl
  ·cases h
 | als r p c s =>
  rw [hs.sv hv (by simp)]; rw [hv] at h
  simp only [target] at h ⊢
  split at h
  ·rename_i hok
   cases he : atP g r p with
   | none => rw [he] at h; cases h
   | some e =>
    obtain ⟨he', hr⟩ := hs.atP he
    rw [Sub.okA hr, hok, he']; rw [he] at h; exact h
  ·cases h
 | _ => rw [hv] at h; simp [target] at h
end
theorem setD_of_free {f : Fl} (h : f.free = true) : f = .sh := by cases f <;> simp_all [Fl.free]
section
variable {H : Nat → Option (List Value)} {N : Nat} {g g' : View} {V V' : Nat → Option Value} {w w' : World} {S S' : Nat → Prop} {β β' : Key → Option Nat}
theorem opnd_dat {x : Operand} {d : Dat} (h : Rel H N g V w S β) (hd : sv g x = .dat d) :
  (∃ s, x = .tmp s ∧ (g s).sv = .dat d) ∨ (d.f = .sh ∧ ∃ c, evl V x = some (valOf d.t c) ∧ Rd S w d.t d.x c) := by
 unfold sv at hd
 split at hd
 ·exact .inl ⟨_, rfl, hd⟩
 ·cases hd; exact .inr ⟨rfl, [.int _ _], rfl, by simp [Rd]⟩
 ·cases hd; exact .inr ⟨rfl, [.bool _], rfl, by simp [Rd]⟩
 ·cases hd
  rename_i s
  refine .inr ⟨rfl, [.string s], rfl, ?_⟩
  simp only [Rd]
 ·cases hd
 ·cases hd; exact .inr ⟨rfl, [.nilFunc], rfl, by simp [Rd, FnRd]⟩
 ·cases hd
  rename_i f
  exact .inr ⟨rfl, [.func (.func f) #[] #[]], rfl, by simp only [Rd]; exact ⟨_, rfl, by simp only [FnRd]; exact ⟨[], rfl, by simp [CapsRd]⟩⟩⟩
 ·cases hd
theorem opnd_tmp {x : Operand} {v : SV} (hd : sv g x = v) (h1 : v ≠ .dead) (h2 : v ≠ .nils) (h3 : ∀ d, v ≠ .dat d) : ∃ s, x = .tmp s ∧ (g s).sv = v := by
 unfold sv at hd
 split at hd <;> first | exact ⟨_, rfl, hd⟩ | exact absurd hd.symm (h3 _) | exact absurd hd.symm h2 | exact absurd hd.symm h1
theorem opnd_nils {x : Operand} (hd : sv g x = .nils) : (∃ s, x = .tmp s ∧ (g s).sv = .nils) ∨ x = .const (.slice none 0 0) := by
 unfold sv at hd
 split at hd <;> first | exact .inl ⟨_, rfl, hd⟩ | exact .inr rfl | cases hd
theorem Rel.place (h : Rel H N g V w S β) {r : Nat} {p : List PS} {e d : Dat} (he : (g r).sv = .dat e) (hg : getP p e.t e.f e.x = some d) (hb : inB p e.t e.x) (hn : d.f.base ≠ .gone) :
  ∃ cr L c, V r = some (valOf e.t cr) ∧ cr.length = e.t.size ∧ VRel S β H w [r] e.t e.f e.x cr ∧ walk w e.t (.reg cr) p = some (d.t, L) ∧ cellsAt w d.t.size L = some c ∧ VRel S β H w (r :: keyP p) d.t d.f d.x c := (h.dat he).at hg hb hn
theorem Rel.als (h : Rel H N g V w S β) {i r c s : Nat} {p : List PS} {e d : Dat} (hi : (g i).sv = .als r p c s) (hok : okA g r c s = true) (he : (g r).sv = .dat e) (hg : getP p e.t e.f e.x = some d) :
  r < N ∧ inB p e.t e.x ∧ d.f.base ≠ .gone ∧ ∃ cr L c', V r = some (valOf e.t cr) ∧ cr.length = e.t.size ∧ VRel S β H w [r] e.t e.f e.x cr ∧ walk w e.t (.reg cr) p = some (d.t, L) ∧ cellsAt w d.t.size L = some c' ∧ VRel S β H w (r :: keyP p) d.t d.f d.x c' ∧ V i = some (valOf d.t c') := by
 have hs := h.slots i
 rw [hi] at hs
 obtain ⟨h0, _, _, hs⟩ := hs
 obtain ⟨cr, d', L, c', k1, k2, k3, k4, k5, k6, k7, k8⟩ := hs hok e he
 rw [hg] at k3
 simp only [Option.some.injEq] at k3
 subst k3
 obtain ⟨cr', L', c'', q1, q2, q3, q4, q5, q6⟩ := h.place he hg k5 k4
 have := valOf_inj (Option.some.inj (q1.symm.trans k1)) q2 k2
 subst this
 rw [k6] at q4
 simp only [Option.some.injEq, Prod.mk.injEq, true_and] at q4
 subst q4
 rw [k7] at q5
 simp only [Option.some.injEq] at q5
 subst q5
 exact ⟨h0, k5, k4, cr', L, c', k1, k2, q3, k6, k7, q6, k8⟩
theorem Sane.repl (h : Sane w S β) {k : Key} {i b : Nat} (hb : β [i] = some b) : Sane w S (repl β k i b) where
 tab := h.tab
 inj k1 k2 c h1 h2 := by
  unfold Rf.repl at h1 h2
  split at h1 <;> split at h2
  ·rename_i e1 e2; rw [e1, e2]
  ·rename_i e1 e2
   split at h2
   ·cases h2
   ·rename_i e3
    cases h1
    exact absurd (h.inj _ _ _ h2 hb) e3
  ·rename_i e1 e2
   split at h1
   ·cases h1
   ·rename_i e3
    cases h2
    exact absurd (h.inj _ _ _ h1 hb) e3
  ·split at h1
   ·cases h1
   ·split at h2
    ·cases h2
    ·exact h.inj _ _ _ h1 h2
 sep k1 c h1 := by
  unfold Rf.repl at h1
  split at h1
  ·cases h1; exact h.sep _ _ hb
  ·split at h1
   ·cases h1
   ·exact h.sep _ _ h1
 live k1 c h1 := by
  unfold Rf.repl at h1
  split at h1
  ·cases h1; exact h.live _ _ hb
  ·split at h1
   ·cases h1
   ·exact h.live _ _ h1
 liveS := h.liveS
theorem Step.repl {k : Key} {i b : Nat} (hb : β [i] = some b) : Step w S β w S (repl β k i b) where
 size := Nat.le_refl _
 old _ _ _ := rfl
 new k1 c h1 := by
  unfold Rf.repl at h1
  split at h1
  ·cases h1; exact .inl ⟨_, hb⟩
  ·split at h1
   ·cases h1
   ·exact .inl ⟨_, h1⟩
 keepS _ h := h
 newS _ h := .inl h
 out := .rfl'
def upN (g : View) (n : Nat) (d : Dat) : View := g.up (.put n (.dat d))
theorem Rel.hand (h : Rel H N g V w S β) {n : Nat} {d : Dat} {c : List Value} (hv : VRel S β H w [n] d.t d.f d.x c) : Rel H N (upN g n d) (upd V n (valOf d.t c)) w S β :=
 h.put h.sane (fun b hb => ⟨hb, rfl⟩) (fun j s b _ _ hb => ⟨hb, rfl⟩) (fun j hj => by simp [upd, hj]) ⟨c, hv, by simp [upd]⟩
theorem Rel.rekey (h : Rel H N g V w S β) {r n : Nat} (k : Key) (hr : (g r).sv = .dead) (hn : (g n).sv = .dead) : Rel H N g V w S (Rf.rekey β (r :: k) [n]) := by
 refine ⟨h.sane.rekey _ _, fun i => ?_⟩
 by_cases hi : (g i).sv = .dead
 ·rw [hi]; trivial
 ·have e1 : i ≠ r := fun e => hi (e ▸ hr)
  have := Rel.put (i := n) (v := .dead) (V' := V) h (h.sane.rekey (r :: k) [n]) (fun b hb => ⟨hb, rfl⟩) (fun j s b hj ha hb => ⟨by
   have e2 : j ≠ r := fun e => ha (e ▸ hr)
   rw [rekey_else (strip_head hj) (strip_head e2)]; exact hb, rfl⟩) (fun _ _ => rfl) trivial
  have e3 : i ≠ n := fun e => hi (e ▸ hn)
  have hg : ∀ j, j ≠ n → g.up (.put n .dead) j = g j := fun j hj => up_ne (u := .put n .dead) hj
  have hdead : ((g.up (.put n .dead)) n).sv = .dead := by rw [show g.up (.put n .dead) n = _ from up_eq (u := .put n .dead)]; rfl
  have hs := this.slots i
  rw [hg i e3] at hs
  cases hv : (g i).sv with
  | dead => trivial
  | nils => rw [hv] at hs; exact hs
  | und => rw [hv] at hs; exact hs
  | unk => rw [hv] at hs; exact hs
  | dat d => rw [hv] at hs; exact hs
  | tup d => rw [hv] at hs; exact hs
  | adr q p c s =>
   rw [hv] at hs
   have ho := h.slots i
   rw [hv] at ho
   obtain ⟨k0, k1, k2, _⟩ := ho
   obtain ⟨_, _, _, k3⟩ := hs
   refine ⟨k0, k1, k2, fun ok dr hdr => ?_⟩
   have hq : q ≠ n := fun e => by rw [e, hn] at hdr; cases hdr
   have hq' := hg q hq
   exact k3 (by rw [Sub.okB hq']; exact ok) dr (by rw [hq']; exact hdr)
  | als q p c s =>
   rw [hv] at hs
   have ho := h.slots i
   rw [hv] at ho
   obtain ⟨k0, k1, k2, _⟩ := ho
   obtain ⟨_, _, _, k3⟩ := hs
   refine ⟨k0, k1, k2, fun ok dr hdr => ?_⟩
   have hq : q ≠ n := fun e => by rw [e, hn] at hdr; cases hdr
   have hq' := hg q hq
   exact k3 (by rw [Sub.okA hq']; exact ok) dr (by rw [hq']; exact hdr)
  | pend q p c s u d =>
   rw [hv] at hs
   have ho := h.slots i
   rw [hv] at ho
   obtain ⟨k0, k1, k2, k3, _⟩ := ho
   obtain ⟨_, _, _, _, k4⟩ := hs
   refine ⟨k0, k1, k2, k3, fun ok dr hdr => ?_⟩
   have hq : q ≠ n := fun e => by rw [e, hn] at hdr; cases hdr
   have hq' := hg q hq
   exact k4 (by rw [Sub.okU hq']; exact ok) dr (by rw [hq']; exact hdr)
  | clo f rs =>
   have ho := h.slots i
   rw [hv] at ho
   exact ho
end
end Go.Rf

end
section
namespace Go.Rf
set_option linter.unusedSectionVars false
variable [T : Laid]
section
variable {H : Nat → Option (List Value)} {N : Nat} {g g' : View} {V V' : Nat → Option Value} {w w' : World} {S S' : Nat → Prop} {β β' : Key → Option Nat}
theorem Rel.moveOut (h : Rel H N g V w S β) {r n : Nat} {p : List PS} {e d : Dat} (he : (g r).sv = .dat e) (hg : getP p e.t e.f e.x = some d) (hd : d.f.base ≠ .gone) (hp : hasElm p = false) (hn : (g n).sv = .dead) :
  Rel H N (g.up (.mod r (.dat ⟨e.t, e.x, setF p e.f .gone⟩))) V w S (Rf.rekey β (r :: keyP p) [n]) := by
 have hrn : r ≠ n := fun e' => by rw [e', hn] at he; cases he
 refine h.mod he rfl (h.sane.rekey _ _) (fun b hb => ⟨hb, rfl⟩) (fun j s b hj ha hb => ⟨?_, rfl⟩) ?_
 ·have hjn : j ≠ n := fun e' => ha (e' ▸ hn)
  rw [rekey_else (strip_head hjn) (strip_head hj)]; exact hb
 ·obtain ⟨c, hv, hV⟩ := h.dat he
  refine ⟨c, VRel_gone_at (fun b hb => ⟨hb, rfl⟩) hp hg hd (fun s b hs hb => ⟨?_, rfl⟩) hv, hV⟩
  simp only [List.cons_append, List.nil_append] at hb ⊢
  rw [rekey_else (strip_head hrn)]
  ·exact hb
  cases hst : strip (r :: keyP p) (r :: s) with
  | none => rfl
  | some s' =>
   have := strip_some.1 hst
   simp only [List.cons_append, List.cons.injEq, true_and] at this
   exact absurd ⟨s', this.symm⟩ hs
theorem VRel_rekey {src dst : Key} {t : Ty} {f : Fl} {x : t.D} {c : List Value} (hv : VRel S β H w src t f x c) : VRel S (rekey β src dst) H w dst t f x c :=
 VRel_trans (fun b hb => ⟨hb, rfl⟩) (fun s b hb => ⟨by rw [rekey_dst]; exact hb, rfl⟩) hv
theorem PendB.repl_or {i r : Nat} {p : List PS} {β2 : Key → Option Nat} (h : β2 = β ∨ ∃ b, β [i] = some b ∧ β2 = repl β (r :: keyP p) i b) (hs : Sane w S β) : Sane w S β2 ∧ Step w S β w S β2 := by
 rcases h with rfl | ⟨b, hb, rfl⟩
 ·exact ⟨hs, .refl⟩
 ·exact ⟨hs.repl hb, .repl hb⟩
theorem Rel.repl (h : Rel H N g V w S β) {i r : Nat} {p : List PS} {β2 : Key → Option Nat} (hb : β2 = β ∨ ∃ b, β [i] = some b ∧ β2 = repl β (r :: keyP p) i b) (hi : (g i).sv = .dead) {d : Dat} (hr : (g r).sv = .dat d) :
  Sane w S β2 ∧ ∀ j s b, j ≠ r → (g j).sv ≠ .dead → β (j :: s) = some b → β2 (j :: s) = some b := by
 rcases hb with rfl | ⟨b, hb, rfl⟩
 ·exact ⟨h.sane, fun _ _ _ _ _ hb => hb⟩
 ·refine ⟨h.sane.repl hb, fun j s b' hj ha hb' => ?_⟩
  have hji : j ≠ i := fun e => ha (e ▸ hi)
  unfold Rf.repl
  rw [if_neg (by simp [hj]), if_neg (by simp [hji])]; exact hb'
theorem take_sound {mv : Bool} {t : Option Ty} {x : Operand} {d : Dat} {us : List Up} {n : Nat} (h : Rel H N g V w S β) (ht : take g mv t x (sv g x) = some (d, us)) (hn : (g n).sv = .dead) (hN : N ≤ n) :
  ∃ S' β' c, Rel H N (upN (g.ups us) n d) (upd V n (valOf d.t c)) w S' β' ∧ Step w S β w S' β' ∧ evl V x = some (valOf d.t c) ∧ c.length = d.t.size := by
 cases hv : sv g x with
 | dead => rw [hv] at ht; simp [take] at ht
 | und => rw [hv] at ht; simp [take] at ht
 | unk => rw [hv] at ht; simp [take] at ht
 | tup d => rw [hv] at ht; simp [take] at ht
 | adr _ _ _ _ => rw [hv] at ht; simp [take] at ht
 | nils =>
  rw [hv] at ht
  simp only [take] at ht
  rcases opnd_nils hv with ⟨s, rfl, hs⟩ | rfl
  ·have := h.slots s
   rw [hs] at this; exact this.elim
  ·split at ht
   ·rename_i τ
    simp only [Option.some.injEq, Prod.mk.injEq] at ht
    obtain ⟨rfl, rfl⟩ := ht
    refine ⟨S, β, [.slice none 0 0], h.hand ?_, .refl, rfl, rfl⟩
    simp only [VRel, Fl.base, Pins, Fl.pins]
    exact ⟨by simp, none, 0, rfl, by simp, .inl rfl⟩
   ·cases ht
 | clo f rs =>
  rw [hv] at ht
  obtain ⟨s, rfl, hs⟩ := opnd_tmp hv (by simp) (by simp) (by simp)
  cases rs with
  | nil =>
   simp only [take, Option.some.injEq, Prod.mk.injEq] at ht
   obtain ⟨rfl, rfl⟩ := ht
   have hss := h.slots s
   rw [hs] at hss
   have := hss.2 (by simp) [] rfl
   refine ⟨S, β, [.func (.func f) #[] #[]], h.hand ?_, .refl, this, rfl⟩
   simp only [VRel, Fl.base, Pins, Fl.pins, Rd, FnRd]
   exact ⟨by simp, _, rfl, [], rfl, by simp [CapsRd]⟩
  | cons a rs => simp [take] at ht
 | dat e =>
  rw [hv] at ht
  simp only [take] at ht
  rcases opnd_dat h hv with ⟨s, rfl, hs⟩ | ⟨hf, c, hc, hrd⟩
  ·obtain ⟨c, hvr, hV⟩ := h.dat hs
   split at ht
   ·rename_i hfr
    simp only [Option.some.injEq, Prod.mk.injEq] at ht
    obtain ⟨rfl, rfl⟩ := ht
    refine ⟨S, β, c, h.hand ?_, .refl, hV, VRel_len hvr⟩
    rw [setD_of_free hfr] at hvr ⊢
    rw [VRel_sh] at hvr ⊢; exact hvr
   ·split at ht
    ·simp only [Option.some.injEq, Prod.mk.injEq] at ht
     obtain ⟨rfl, rfl⟩ := ht
     have hns : n ≠ s := fun e' => by rw [e', hs] at hn; cases hn
     have h1 : Rel H N (g.up (.put s .dead)) V w S β := h.kill fun _ _ => rfl
     have hd1 : ((g.up (.put s .dead)) s).sv = .dead := by rw [show g.up (.put s .dead) s = _ from up_eq (u := .put s .dead)]; rfl
     have hd2 : ((g.up (.put s .dead)) n).sv = .dead := by rw [up_ne (u := .put s .dead) hns]; exact hn
     have h2 := h1.rekey [] hd1 hd2
     exact ⟨S, _, c, h2.hand (VRel_rekey hvr), .rekey _ _, hV, VRel_len hvr⟩
    ·cases ht
  ·split at ht
   ·simp only [Option.some.injEq, Prod.mk.injEq] at ht
    obtain ⟨rfl, rfl⟩ := ht
    refine ⟨S, β, c, h.hand ?_, .refl, hc, Rd_len hrd⟩
    rw [hf, VRel_sh]; exact hrd
   ·rename_i hfr; rw [hf] at hfr; simp [Fl.free] at hfr
 | als r p c s =>
  rw [hv] at ht
  obtain ⟨i, rfl, hi⟩ := opnd_tmp hv (by simp) (by simp) (by simp)
  simp only [take] at ht
  split at ht
  ·rename_i hok
   split at ht
   ·rename_i e he
    split at ht
    ·rename_i d' hg
     obtain ⟨hr0, hb, hnd, cr, L, c', k1, k2, k3, k4, k5, k6, k7⟩ := h.als hi hok he hg
     split at ht
     ·rename_i hfr
      simp only [Option.some.injEq, Prod.mk.injEq] at ht
      obtain ⟨rfl, rfl⟩ := ht
      refine ⟨S, β, c', h.hand ?_, .refl, k7, VRel_len k6⟩
      rw [setD_of_free hfr] at k6 ⊢
      rw [VRel_sh] at k6 ⊢; exact k6
     ·split at ht
      ·rename_i hw
       split at ht
       ·rename_i hm
        simp only [Option.some.injEq, Prod.mk.injEq] at ht
        obtain ⟨rfl, rfl⟩ := ht
        simp only [Bool.and_eq_true, Bool.not_eq_true'] at hm
        have h2 := h.moveOut he hg hnd hm.2 hn
        exact ⟨S, _, c', h2.hand (VRel_rekey k6), .rekey _ _, k7, VRel_len k6⟩
       ·simp only [Option.some.injEq, Prod.mk.injEq] at ht
        obtain ⟨rfl, rfl⟩ := ht
        have h2 := h.publish he hg hw
        refine ⟨_, _, c', h2.hand ?_, .pub _ _ _, k7, VRel_len k6⟩
        rw [VRel_sh]; exact read_pub (d := d') hg hw k6
      ·cases ht
    ·cases ht
   ·cases ht
  ·cases ht
 | pend r p c s u e =>
  rw [hv] at ht
  obtain ⟨i, rfl, hi⟩ := opnd_tmp hv (by simp) (by simp) (by simp)
  simp only [take] at ht
  split at ht
  ·rename_i hok
   simp only [Bool.and_eq_true, Bool.not_eq_true'] at hok
   split at ht
   ·rename_i e' he
    simp only [Option.some.injEq, Prod.mk.injEq] at ht
    obtain ⟨rfl, rfl⟩ := ht
    have hss := h.slots i
    rw [hi] at hss
    obtain ⟨h0, _, _, _, hss⟩ := hss
    obtain ⟨⟨e2, hg, hnd, hb⟩, β2, cc, hβ2, hvr, hV⟩ := hss hok.1.1.1 e' he
    have hir : i ≠ r := fun e3 => by rw [e3, he] at hi; cases hi
    have hni : n ≠ i := fun e3 => by rw [e3, hi] at hn; cases hn
    have hnr : n ≠ r := fun e3 => by rw [e3, he] at hn; cases hn
    have h1 : Rel H N (g.up (.put i .dead)) V w S β := h.kill fun _ _ => rfl
    have hd1 : ((g.up (.put i .dead)) i).sv = .dead := by rw [show g.up (.put i .dead) i = _ from up_eq (u := .put i .dead)]; rfl
    have hd2 : ((g.up (.put i .dead)) n).sv = .dead := by rw [up_ne (u := .put i .dead) hni]; exact hn
    have hd3 : ((g.up (.put i .dead)) r).sv = .dat e' := by rw [up_ne (u := .put i .dead) (Ne.symm hir)]; exact he
    obtain ⟨hsane, hkeep⟩ := h1.repl hβ2 hd1 hd3
    have h2 : Rel H N ((g.up (.put i .dead)).up (.mod r (.dat ⟨e'.t, e'.x, setF p e'.f .gone⟩))) V w S (rekey β2 (r :: keyP p) [n]) := by
     refine h1.mod hd3 rfl (hsane.rekey _ _) (fun b hb => ⟨hb, rfl⟩) (fun j s b hj ha hb => ⟨?_, rfl⟩) ?_
     ·have hjn : j ≠ n := fun e' => ha (e' ▸ hd2)
      rw [rekey_else (strip_head hjn) (strip_head hj)]; exact hkeep j s b hj ha hb
     ·obtain ⟨c, hv, hV⟩ := h1.dat hd3
      refine ⟨c, VRel_gone_at (fun b hb => ⟨hb, rfl⟩) hok.1.1.2 hg hnd (fun s b hs hb => ⟨?_, rfl⟩) hv, hV⟩
      simp only [List.cons_append, List.nil_append] at hb ⊢
      have hst : strip (r :: keyP p) (r :: s) = none := by
       cases hst : strip (r :: keyP p) (r :: s) with
       | none => rfl
       | some s' =>
        have := strip_some.1 hst
        simp only [List.cons_append, List.cons.injEq, true_and] at this
        exact absurd ⟨s', this.symm⟩ hs
      rw [rekey_else (strip_head (Ne.symm hnr)) hst]
      rcases hβ2 with rfl | ⟨b2, hb2, rfl⟩
      ·exact hb
      ·unfold Rf.repl
       rw [if_neg (fun e3 => ?_), if_neg (by simp [Ne.symm hir])]
       ·exact hb
       ·exact strip_none hst [] (by simpa using e3)
    have hcomm : (g.ups [.mod r (.dat ⟨e'.t, e'.x, setF p e'.f .gone⟩), .put i .dead]) = (g.up (.put i .dead)).up (.mod r (.dat ⟨e'.t, e'.x, setF p e'.f .gone⟩)) :=
     View.up_comm (u := .mod r (.dat ⟨e'.t, e'.x, setF p e'.f .gone⟩)) (v := .put i .dead) (Ne.symm hir)
    rw [hcomm]
    exact ⟨S, _, cc, h2.hand (VRel_rekey hvr), .trans (PendB.repl_or hβ2 h.sane).2 (.rekey _ _), hV, VRel_len hvr⟩
   ·cases ht
  ·cases ht
end
end Go.Rf

end
section
namespace Go.Rf
set_option linter.unusedSectionVars false
variable [T : Laid]
section
variable {H : Nat → Option (List Value)} {N : Nat} {g g' : View} {V V' : Nat → Option Value} {w w' : World} {S S' : Nat → Prop} {β β' : Key → Option Nat}
def seenS (S : Nat → Prop) (β : Key → Option Nat) : Nat → Prop := fun b => S b ∨ ∃ k, β k = some b
theorem VRel_seen {k : Key} {t : Ty} {f : Fl} {x : t.D} {c : List Value} (hw : f.whole = true) (h : VRel S β H w k t f x c) : Rd (seenS S β) w t x c :=
 VRel_read hw (fun _ => .inl) (fun _ _ hb => .inr ⟨_, hb⟩) h
theorem Rd_seen {t : Ty} {x : t.D} {c : List Value} (h : Rd S w t x c) : Rd (seenS S β) w t x c := Rd_mono (fun _ hb => ⟨.inl hb, rfl⟩) h
theorem capsOf_sound (h : Rel H N g V w S β) : ∀ {rs : List (Nat × Nat)} {cs : FCaps}, capsOf g rs = some cs →
  (∀ x ∈ rs, (g x.1).s = x.2) ∧ ∃ vs : List Value, rs.map (fun x => V x.1) = vs.map some ∧ CapsRd (seenS S β) w cs vs
 | [], cs, hc => by
  simp only [capsOf, Option.some.injEq] at hc; subst hc
  exact ⟨by simp, [], rfl, by simp [CapsRd]⟩
 | (r, s) :: rs, cs, hc => by
  simp only [capsOf] at hc
  split at hc
  ·rename_i k n f he
   split at hc
   ·rename_i hok
    simp only [Bool.and_eq_true, Nat.beq_eq] at hok
    simp only [Option.map_eq_some_iff] at hc
    obtain ⟨cs', hc, rfl⟩ := hc
    obtain ⟨h1, vs, h2, h3⟩ := capsOf_sound h hc
    obtain ⟨c, hv, hV⟩ := h.dat he
    have := VRel_seen hok.2 hv
    simp only [Rd] at this
    obtain ⟨b, cs2, rfl, hb, hB, hz, h4⟩ := this
    refine ⟨?_, .pointer (some ⟨b, 0, none⟩) :: vs, ?_, ?_⟩
    ·intro x hx
     rcases List.mem_cons.1 hx with rfl | hx
     ·exact hok.1
     ·exact h1 x hx
    ·simp only [List.map_cons, h2, List.cons.injEq, and_true]; exact hV
    ·simp only [CapsRd]
     refine ⟨b, vs, rfl, hb, ?_, h3⟩
     have : cs2 = #[.int k n] := by apply Array.toList_inj.1; rw [h4]
     rwa [← this]
   ·cases hc
  ·rename_i v f he
   split at hc
   ·rename_i hok
    simp only [Bool.and_eq_true, Nat.beq_eq] at hok
    simp only [Option.map_eq_some_iff] at hc
    obtain ⟨cs', hc, rfl⟩ := hc
    obtain ⟨h1, vs, h2, h3⟩ := capsOf_sound h hc
    obtain ⟨c, hv, hV⟩ := h.dat he
    have := VRel_seen hok.2 hv
    simp only [Rd] at this
    obtain ⟨b, cs2, rfl, hb, hB, hz, u, h4, h5⟩ := this
    refine ⟨?_, .pointer (some ⟨b, 0, none⟩) :: vs, ?_, ?_⟩
    ·intro x hx
     rcases List.mem_cons.1 hx with rfl | hx
     ·exact hok.1
     ·exact h1 x hx
    ·simp only [List.map_cons, h2, List.cons.injEq, and_true]; exact hV
    ·simp only [CapsRd]
     refine ⟨b, u, vs, rfl, hb, ?_, h5, h3⟩
     have : cs2 = #[u] := by apply Array.toList_inj.1; rw [h4]
     rwa [← this]
   ·cases hc
  ·cases hc
theorem dataOf_sound {x : Operand} {d : Dat} (h : Rel H N g V w S β) (hd : dataOf g (sv g x) = some d) :
  ∃ c, evl V x = some (valOf d.t c) ∧ Rd (seenS S β) w d.t d.x c := by
 cases hv : sv g x with
 | dead => rw [hv] at hd; simp [dataOf] at hd
 | und => rw [hv] at hd; simp [dataOf] at hd
 | unk => rw [hv] at hd; simp [dataOf] at hd
 | tup d => rw [hv] at hd; simp [dataOf] at hd
 | adr _ _ _ _ => rw [hv] at hd; simp [dataOf] at hd
 | nils => rw [hv] at hd; simp [dataOf] at hd
 | dat e =>
  rw [hv] at hd
  simp only [dataOf] at hd
  split at hd
  ·rename_i hw
   simp only [Option.some.injEq] at hd; subst hd
   rcases opnd_dat h hv with ⟨s, rfl, hs⟩ | ⟨hf, c, hc, hrd⟩
   ·obtain ⟨c, hvr, hV⟩ := h.dat hs
    exact ⟨c, hV, VRel_seen hw hvr⟩
   ·exact ⟨c, hc, Rd_seen hrd⟩
  ·cases hd
 | clo f rs =>
  rw [hv] at hd
  obtain ⟨s, rfl, hs⟩ := opnd_tmp hv (by simp) (by simp) (by simp)
  simp only [dataOf, Option.map_eq_some_iff] at hd
  obtain ⟨cs, hc, rfl⟩ := hd
  obtain ⟨h1, vs, h2, h3⟩ := capsOf_sound h hc
  have hss := h.slots s
  rw [hs] at hss
  have := hss.2 h1 vs h2
  refine ⟨[.func (.func f) #[] vs.toArray], this, ?_⟩
  simp only [Rd, FnRd]
  exact ⟨_, rfl, vs, rfl, h3⟩
 | als r p c s =>
  rw [hv] at hd
  obtain ⟨i, rfl, hi⟩ := opnd_tmp hv (by simp) (by simp) (by simp)
  simp only [dataOf] at hd
  split at hd
  ·rename_i hok
   split at hd
   ·rename_i e he
    split at hd
    ·rename_i hw
     simp only [Option.some.injEq] at hd; subst hd
     obtain ⟨e', he', hg⟩ := atP_some he
     obtain ⟨_, hb, hnd, cr, L, c', k1, k2, k3, k4, k5, k6, k7⟩ := h.als hi hok he' hg
     exact ⟨c', k7, VRel_seen hw k6⟩
    ·cases hd
   ·cases hd
  ·cases hd
 | pend r p c s u e =>
  rw [hv] at hd
  obtain ⟨i, rfl, hi⟩ := opnd_tmp hv (by simp) (by simp) (by simp)
  simp only [dataOf] at hd
  split at hd
  ·rename_i hok
   simp only [Bool.and_eq_true] at hok
   split at hd
   ·rename_i e' he
    simp only [Option.some.injEq] at hd; subst hd
    have hss := h.slots i
    rw [hi] at hss
    obtain ⟨h0, _, _, _, hss⟩ := hss
    obtain ⟨_, β2, cc, hβ2, hvr, hV⟩ := hss hok.1 e' he
    refine ⟨cc, hV, Rd_mono (fun b hb => ⟨?_, rfl⟩) (VRel_seen hok.2 hvr)⟩
    rcases hb with hb | ⟨k, hb⟩
    ·exact .inl hb
    ·rcases hβ2 with rfl | ⟨b2, hb2, rfl⟩
     ·exact .inr ⟨k, hb⟩
     ·unfold repl at hb
      split at hb
      ·cases hb; exact .inr ⟨_, hb2⟩
      ·split at hb
       ·cases hb
       ·exact .inr ⟨k, hb⟩
   ·cases hd
  ·cases hd
theorem placeOf_sound {x : Operand} {q : Pl} {d : Dat} (h : Rel H N g V w S β) (hq : placeOf g x (sv g x) = some q) (hd : atP g q.1 q.2 = some d) (hn : d.f.base ≠ .gone) :
  ∃ e cr L c, (g q.1).sv = .dat e ∧ getP q.2 e.t e.f e.x = some d ∧ inB q.2 e.t e.x ∧ V q.1 = some (valOf e.t cr) ∧ cr.length = e.t.size ∧ VRel S β H w [q.1] e.t e.f e.x cr ∧
   walk w e.t (.reg cr) q.2 = some (d.t, L) ∧ cellsAt w d.t.size L = some c ∧ VRel S β H w (q.1 :: keyP q.2) d.t d.f d.x c ∧ evl V x = some (valOf d.t c) := by
 obtain ⟨e, he, hg⟩ := atP_some hd
 cases hv : sv g x with
 | dat e' =>
  rw [hv] at hq
  simp only [placeOf] at hq
  split at hq
  ·rename_i s
   simp only [Option.some.injEq] at hq; subst hq
   have he' : (g s).sv = .dat e' := hv
   rw [he] at he'
   simp only [SV.dat.injEq] at he'
   subst he'
   simp only [getP, Option.some.injEq] at hg
   subst hg
   obtain ⟨c, hvr, hV⟩ := h.dat he
   have hl := VRel_len hvr
   exact ⟨e, c, .reg c, c, he, rfl, by simp [inB], hV, hl, hvr, rfl, by simp [cellsAt, hl], by simpa [keyP] using hvr, hV⟩
  ·cases hq
 | als r p c s =>
  rw [hv] at hq
  obtain ⟨i, rfl, hi⟩ := opnd_tmp hv (by simp) (by simp) (by simp)
  simp only [placeOf] at hq
  split at hq
  ·rename_i hok
   simp only [Option.some.injEq] at hq; subst hq
   obtain ⟨_, hb, hnd, cr, L, c', k1, k2, k3, k4, k5, k6, k7⟩ := h.als hi hok he hg
   exact ⟨e, cr, L, c', he, hg, hb, k1, k2, k3, k4, k5, k6, k7⟩
  ·cases hq
 | _ => rw [hv] at hq; simp [placeOf] at hq
theorem target_sound {x : Operand} {q : Pl} {d : Dat} (h : Rel H N g V w S β) (hq : target g x (sv g x) = some q) (hd : atP g q.1 q.2 = some d) :
  ∃ e cr b o, (g q.1).sv = .dat e ∧ getP q.2 e.t e.f e.x = some d ∧ inB q.2 e.t e.x ∧ V q.1 = some (valOf e.t cr) ∧ cr.length = e.t.size ∧
   walk w e.t (.reg cr) q.2 = some (d.t, .mem b o) ∧ evl V x = some (.pointer (some ⟨b, o, none⟩)) ∧ (boxed q.2 = true ∨ ∃ d', getP q.2 e.t e.f e.x = some d' ∧ d'.f.base ≠ .gone) := by
 obtain ⟨e, he, hg⟩ := atP_some hd
 cases hv : sv g x with
 | dat e' =>
  rw [hv] at hq
  obtain ⟨t, y, f⟩ := e'
  cases t <;> simp only [target, reduceCtorEq] at hq
  split at hq
  ·cases hq
  ·rename_i hf
   split at hq
   ·rename_i s
    simp only [Option.some.injEq] at hq; subst hq
    have he' : (g s).sv = .dat _ := hv
    rw [he] at he'
    simp only [SV.dat.injEq] at he'
    subst he'
    obtain ⟨c, hvr, hV⟩ := h.dat he
    have hl := VRel_len hvr
    simp only [Bool.not_eq_true] at hf
    rename_i t
    have hg' := hg
    simp only [getP, Option.some.injEq] at hg'
    subst hg'
    have hb := VRel_pin_base hvr
    have : ∃ b, c = [.pointer (some ⟨b, 0, none⟩)] := by
     have hne := isGone_base hf
     simp only [VRel] at hvr
     replace hvr := hvr.2
     cases hfb : Fl.base f with
     | own e2 => rw [hfb] at hvr; obtain ⟨b, cs, rfl, _⟩ := hvr; exact ⟨b, rfl⟩
     | gone => exact absurd hfb hne
     | _ => rw [hfb] at hvr; simp only [Rd] at hvr; obtain ⟨b, cs, rfl, _⟩ := hvr; exact ⟨b, rfl⟩
    obtain ⟨b, rfl⟩ := this
    exact ⟨_, _, b, 0, he, by simp [getP], by simp [inB], hV, hl, by simp [walk, stepL, cellsAt], hV, .inl rfl⟩
   ·cases hq
 | adr r p c s =>
  rw [hv] at hq
  obtain ⟨i, rfl, hi⟩ := opnd_tmp hv (by simp) (by simp) (by simp)
  simp only [target] at hq
  split at hq
  ·rename_i hok
   simp only [Option.some.injEq] at hq; subst hq
   have hss := h.slots i
   rw [hi] at hss
   obtain ⟨h0, _, _, hss⟩ := hss
   obtain ⟨cr, t, b, o, k1, k2, k3, k4, k5, k6⟩ := hss hok e he
   have := walk_ty hg k3
   subst this
   refine ⟨e, cr, b, o, he, hg, k5, k1, k2, k3, k4, ?_⟩
   simp only
   cases hbx : boxed p with
   | true => exact .inl rfl
   | false => exact .inr (k6 hbx)
  ·cases hq
 | als r p c s =>
  rw [hv] at hq
  obtain ⟨i, rfl, hi⟩ := opnd_tmp hv (by simp) (by simp) (by simp)
  simp only [target] at hq
  split at hq
  ·rename_i hok
   split at hq
   ·rename_i t y f hat
    split at hq
    ·cases hq
    ·rename_i hf
     simp only [Option.some.injEq] at hq; subst hq
     simp only at he hg hd ⊢
     obtain ⟨e2, he2, hg2⟩ := atP_some hat
     rw [he] at he2
     simp only [SV.dat.injEq] at he2
     subst he2
     obtain ⟨_, hb, hnd, cr, L, c', k1, k2, k3, k4, k5, k6, k7⟩ := h.als hi hok he hg2
     have hgd : getP (p ++ [.der]) e.t e.f e.x = some ⟨t, y, f.e⟩ := by rw [getP_append hg2]; rfl
     rw [hg] at hgd
     simp only [Option.some.injEq] at hgd
     subst hgd
     simp only [Bool.not_eq_true] at hf
     have hne := isGone_base hf
     obtain ⟨b, cs, hc', hs, hB, hz, hv'⟩ := VRel_der hne k6
     subst hc'
     simp only [Ty.size] at k5
     refine ⟨e, cr, b, 0, he, hg, inB_append hg2 hb (by simp [inB]), k1, k2, ?_, k7, .inr ⟨_, hg, hne⟩⟩
     rw [walk_append k4]
     simp [walk, stepL, k5]
   ·cases hq
  ·cases hq
 | _ => rw [hv] at hq; simp [target] at hq
end
end Go.Rf

end
section
namespace Go.Rf
set_option linter.unusedSectionVars false
variable [T : Laid]
def TyShape (P : Program) (d : Nat) (u : TypeDesc) (τ : Ty) : Prop :=
 match u with
 | .int k => τ = .int k
 | .bool => τ = .bool
 | .string => τ = .str
 | .func _ _ _ => τ = .fn
 | .slice e => ∃ a, tyN P d e = some a ∧ τ = .sl a
 | .pointer e => ∃ a, tyN P d e = some a ∧ τ = .ptr a
 | .array n e => ∃ a, tyN P d e = some a ∧ τ = .arr n a
 | .struct fs => chain (tyN P d) fs.toList 0 = some τ
 | _ => False
theorem tyN_inv {P : Program} {d : Nat} {t : TypeId} {τ : Ty} (h : tyN P (d + 1) t = some τ) :
  ∃ i u, P.info? t = some i ∧ P.underlying t = some u ∧ i.size = τ.size ∧ TyShape P d u τ := by
 simp only [tyN] at h
 split at h
 ·rename_i i u hi hu
  split at h
  ·rename_i τ' hτ
   split at h
   ·rename_i hsz
    simp only [Option.some.injEq] at h; subst h
    refine ⟨i, u, hi, hu, by simpa [Nat.beq_eq] using hsz, ?_⟩
    unfold TyShape
    split at hτ <;> (try simp only [Option.some.injEq, Option.map_eq_some_iff, reduceCtorEq] at hτ)
    ·exact hτ.symm
    ·exact hτ.symm
    ·exact hτ.symm
    ·exact hτ.symm
    ·obtain ⟨a, h1, h2⟩ := hτ; exact ⟨a, h1, h2.symm⟩
    ·obtain ⟨a, h1, h2⟩ := hτ; exact ⟨a, h1, h2.symm⟩
    ·obtain ⟨a, h1, h2⟩ := hτ; exact ⟨a, h1, h2.symm⟩
    ·exact hτ
   ·cases h
  ·cases h
 ·cases h
theorem chain_agg {ty : TypeId → Option Ty} : ∀ {fs : List Field} {o : Nat} {τ : Ty}, chain ty fs o = some τ → τ = .unit ∨ ∃ a b, τ = .pair a b
 | [], _, _, h => by simp only [chain, Option.some.injEq] at h; exact .inl h.symm
 | f :: fs, o, τ, h => by
  simp only [chain] at h
  split at h
  ·split at h
   ·simp only [Option.map_eq_some_iff] at h
    obtain ⟨b, _, rfl⟩ := h
    exact .inr ⟨_, _, rfl⟩
   ·cases h
  ·cases h
section
variable {P : Program} {w : World}
theorem run_typeInfo' {t : TypeId} {i : TypeInfo} (h : P.info? t = some i) : (typeInfo t).run P w = .ok i w := by
 unfold typeInfo; simp [h]
theorem run_underlying' {t : TypeId} {u : TypeDesc} (h : P.underlying t = some u) : (underlying t).run P w = .ok u w := by
 unfold underlying; simp [h]
theorem run_sizeOf' {t : TypeId} {d : Nat} {τ : Ty} (h : tyN P (d + 1) t = some τ) : (sizeOf t).run P w = .ok τ.size w := by
 obtain ⟨i, u, h1, h2, h3, h4⟩ := tyN_inv h
 unfold sizeOf; simp [run_typeInfo' h1, h3]
theorem run_isAgg' {t : TypeId} {d : Nat} {τ : Ty} (h : tyN P (d + 1) t = some τ) : (isAgg t).run P w = .ok τ.agg w := by
 obtain ⟨i, u, h1, h2, h3, h4⟩ := tyN_inv h
 unfold isAgg
 simp only [Sem.run_bind, run_underlying' h2, Result.andThen_ok]
 unfold TyShape at h4
 cases u <;> simp only at h4 <;> first
  | exact h4.elim
  | (subst h4; rfl)
  | (obtain ⟨a, _, rfl⟩ := h4; rfl)
  | (rcases chain_agg h4 with rfl | ⟨a, b, rfl⟩ <;> rfl)
theorem addr_add (b o n : Nat) : (Addr.add ⟨b, o, none⟩ n) = ⟨b, o + n, none⟩ := by
 unfold Addr.add; split
 ·rename_i h; rw [h]; rfl
 ·rfl
theorem cell_of {b o n : Nat} {c : List Value} (h : cellsAt w n (.mem b o) = some c) (j : Nat) (v : Value) (hj : c[j]? = some v) : w.cell? (Addr.add ⟨b, o, none⟩ j) = some v := by
 rw [addr_add]
 have hl := cellsAt_len h
 simp only [cellsAt] at h
 split at h
 ·rename_i cs e fz hb
  split at h
  ·rename_i hle
   simp only [Option.some.injEq] at h; subst h
   simp only [World.cell?, hb]
   rw [win_get] at hj
   split at hj
   ·simpa using hj
   ·cases hj
  ·cases h
 ·cases h
theorem run_loadCells' {b o n : Nat} {c : List Value} (h : cellsAt w n (.mem b o) = some c) : (loadCells ⟨b, o, none⟩ n).run P w = .ok c.toArray w := by
 have := run_loadCells_list (P := P) w ⟨b, o, none⟩ c (fun j v hj => cell_of h j v hj)
 rwa [cellsAt_len h] at this
theorem run_loadVar' {t : TypeId} {d : Nat} {τ : Ty} {b o : Nat} {c : List Value} (ht : tyN P (d + 1) t = some τ) (h : cellsAt w τ.size (.mem b o) = some c) :
  (loadVar t ⟨b, o, none⟩).run P w = .ok (valOf τ c) w := by
 unfold loadVar
 simp only [Sem.run_bind, run_isAgg' ht, Result.andThen_ok]
 cases ha : τ.agg with
 | true =>
  simp only [if_true, Sem.run_bind, run_sizeOf' ht, Result.andThen_ok, run_loadCells' h, Sem.run_pure]
  unfold valOf; rw [ha]
 | false =>
  simp only [Bool.false_eq_true, if_false]
  have hl := cellsAt_len h
  have hs : τ.size = 1 := by cases τ <;> simp_all [Ty.agg, Ty.size]
  rw [hs] at hl
  obtain ⟨v, rfl⟩ := List.length_eq_one_iff.1 hl
  have := cell_of h 0 v rfl
  rw [addr_add] at this
  simp only [Nat.add_zero] at this
  simp only [run_load, this]
  unfold valOf; rw [ha]; rfl
theorem FnRd_one {S : Nat → Prop} : ∀ {x : FnVal} {v : Value}, FnRd S w x v → v.oneCell' = true
 | .nil, v, h => by simp only [FnRd] at h; subst h; rfl
 | .mk f cs, v, h => by simp only [FnRd] at h; obtain ⟨l, rfl, _⟩ := h; rfl
theorem mem_win {c : List Value} {v : Value} {n : Nat} (hv : v ∈ c) (hn : c.length = n) : ∃ i, i < n ∧ c[i]? = some v := by
 obtain ⟨i, hi, h⟩ := List.getElem_of_mem hv
 exact ⟨i, by omega, by rw [List.getElem?_eq_getElem hi, h]⟩
theorem Rd_one {S : Nat → Prop} : ∀ {t : Ty} {x : t.D} {c : List Value}, Rd S w t x c → ∀ v ∈ c, v.oneCell' = true
 | .int _, _, _, h => by simp only [Rd] at h; subst h; simp [Value.oneCell']
 | .bool, _, _, h => by simp only [Rd] at h; subst h; simp [Value.oneCell']
 | .str, _, _, h => by simp only [Rd] at h; subst h; simp [Value.oneCell']
 | .fn, _, _, h => by simp only [Rd] at h; obtain ⟨u, rfl, h⟩ := h; simpa using FnRd_one h
 | .unit, _, _, h => by simp only [Rd] at h; subst h; simp
 | .sl _, _, _, h => by simp only [Rd] at h; obtain ⟨_, _, rfl, _⟩ := h; simp [Value.oneCell']
 | .ptr _, _, _, h => by simp only [Rd] at h; obtain ⟨_, _, rfl, _⟩ := h; simp [Value.oneCell']
 | .arr n t, x, c, h => by
  simp only [Rd] at h
  obtain ⟨h1, h2, h3⟩ := h
  intro v hv
  obtain ⟨i, hi, hiv⟩ := mem_win hv h2
  have ht : 0 < t.size := by
   rcases Nat.eq_zero_or_pos t.size with e | e
   ·rw [e] at hi; omega
   ·exact e
  have hq : i / t.size < n := by rw [Nat.div_lt_iff_lt_mul ht]; exact hi
  have hx : i / t.size < List.length x := by omega
  have hr := Rd_one (h3 (i / t.size) _ (getD_nth (z := t.dflt) hx))
  refine hr v ?_
  have hg : (win c (i / t.size * t.size) t.size)[i % t.size]? = some v := by
   rw [win_get, if_pos (Nat.mod_lt _ ht)]
   have := Nat.div_add_mod i t.size
   rw [Nat.mul_comm] at this
   rw [this]; exact hiv
  exact List.mem_of_getElem? hg
 | .pair a b, x, c, h => by
  simp only [Rd] at h
  intro v hv
  rw [← List.take_append_drop a.size c] at hv
  rcases List.mem_append.1 hv with hv | hv
  ·exact Rd_one h.1 v hv
  ·exact Rd_one h.2 v hv
theorem VRel_one {S : Nat → Prop} {β : Key → Option Nat} {H : Nat → Option (List Value)} {k : Key} {t : Ty} {f : Fl} {x : t.D} {c : List Value} (hw : f.whole = true) (h : VRel S β H w k t f x c) : ∀ v ∈ c, v.oneCell' = true :=
 Rd_one (VRel_seen hw h)
theorem cells_valOf {t : Ty} {c : List Value} (hl : c.length = t.size) (h1 : ∀ v ∈ c, v.oneCell' = true) : (valOf t c).cells = c.toArray := by
 unfold valOf
 cases ha : t.agg with
 | true => rfl
 | false =>
  have hs : t.size = 1 := by cases t <;> simp_all [Ty.agg, Ty.size]
  rw [hs] at hl
  obtain ⟨v, rfl⟩ := List.length_eq_one_iff.1 hl
  have := h1 v (by simp)
  cases v <;> first | rfl | simp [Value.oneCell'] at this
theorem run_store1 {b o : Nat} {cs : Array Value} {e : TypeId} {fz : Nat × Nat} {v : Value} (hb : w.heap[b]? = some (.cells cs e fz)) (ho : o < cs.size) (hf : ¬ (fz.1 ≤ o ∧ o < fz.2)) (hv : v.oneCell' = true) :
  ∃ w', (store ⟨b, o, none⟩ v).run P w = .ok () w' ∧ w'.heap[b]? = some (.cells (cs.set o v) e fz) ∧ (∀ b', b' ≠ b → w'.heap[b']? = w.heap[b']?) ∧ w'.heap.size = w.heap.size ∧ SameOut w w' := by
 have hlt := (Array.getElem?_eq_some_iff.1 hb).1
 refine ⟨w.setCell ⟨b, o, none⟩ v, ?_, ?_, ?_, ?_, ⟨rfl, rfl, rfl⟩⟩
 ·rw [run_store P w _ v _ hv]
  have h1 : w.cell? ⟨b, o, none⟩ = some cs[o] := by simp [World.cell?, hb, ho]
  have h2 : w.frozen? ⟨b, o, none⟩ = false := by
   obtain ⟨lo, hi⟩ := fz
   simp only at hf
   simp only [World.frozen?, hb]
   cases hq : (decide (lo ≤ o) && decide (o < hi))
   ·rfl
   ·simp only [Bool.and_eq_true, decide_eq_true_eq] at hq; exact absurd hq hf
  simp [h1, h2]
 ·simp only [World.setCell, Array.getElem?_modify]
  rw [hb]
  simp [Array.setIfInBounds, ho]
 ·intro b' hb'
  simp only [World.setCell, Array.getElem?_modify]
  rw [if_neg (Ne.symm hb')]
 ·simp [World.setCell]
theorem run_storeCells' {b o : Nat} {e : TypeId} {fz : Nat × Nat} : ∀ {vs : List Value} {i : Nat} {w : World} {cs : Array Value}, w.heap[b]? = some (.cells cs e fz) → (∀ j, j < vs.length → o + i + j < cs.size ∧ ¬ (fz.1 ≤ o + i + j ∧ o + i + j < fz.2)) → (∀ v ∈ vs, v.oneCell' = true) →
  ∃ w' cs', (storeCells ⟨b, o, none⟩ vs i).run P w = .ok () w' ∧ w'.heap[b]? = some (.cells cs' e fz) ∧ cs'.toList = splice cs.toList (o + i) vs ∧ (∀ b', b' ≠ b → w'.heap[b']? = w.heap[b']?) ∧ w'.heap.size = w.heap.size ∧ SameOut w w'
 | [], i, w, cs, hb, _, _ => ⟨w, cs, by simp [storeCells], hb, by simp [splice], fun _ _ => rfl, rfl, .rfl'⟩
 | v :: vs, i, w, cs, hb, hj, hv => by
  have h0 := hj 0 (by simp)
  simp only [Nat.add_zero] at h0
  obtain ⟨w1, g1, g2, g3, g4, g5⟩ := run_store1 (P := P) hb h0.1 h0.2 (hv v (by simp))
  obtain ⟨w2, cs2, k1, k2, k3, k4, k5, k6⟩ := run_storeCells' (vs := vs) (i := i + 1) (w := w1) g2 (fun j hjl => by
   have := hj (j + 1) (by simp; omega)
   rw [Array.size_set]
   rw [show o + (i + 1) + j = o + i + (j + 1) by omega]; exact this) (fun u hu => hv u (by simp [hu]))
  refine ⟨w2, cs2, ?_, k2, ?_, fun b' hb' => (k4 b' hb').trans (g3 b' hb'), k5.trans g4, g5.trans k6⟩
  ·simp only [storeCells, addr_add, Sem.run_bind, g1, Result.andThen_ok, k1]
  ·rw [k3, Array.toList_set]
   have hlen : o + i < cs.toList.length := by simpa using h0.1
   have hlast : o + i + (v :: vs).length ≤ cs.toList.length := by
    have := (hj vs.length (by simp)).1
    simp only [List.length_cons, Array.length_toList]; omega
   simp only [List.length_cons] at hlast
   apply List.ext_getElem?
   intro k
   rw [splice_get (by simp; simp only [Array.length_toList] at hlast; omega), splice_get (by simpa using hlast), List.getElem?_set]
   by_cases h1 : k < o + i
   ·rw [if_pos (by omega), if_neg (by omega), if_pos h1]
   ·rw [if_neg h1]
    by_cases h2 : k = o + i
    ·subst h2
     rw [if_pos (by omega), if_pos rfl, if_pos hlen, if_pos (by simp)]
     simp
    ·rw [if_neg (by omega)]
     have e : k - (o + i) = (k - (o + (i + 1))) + 1 := by omega
     rw [e, List.getElem?_cons_succ, List.length_cons]
     by_cases h3 : k < o + (i + 1) + vs.length
     ·rw [if_pos h3, if_pos (by omega)]
     ·rw [if_neg h3, if_neg (by omega), if_neg (by omega)]
theorem run_storeVar' {t : TypeId} {d : Nat} {τ : Ty} {b o : Nat} {cs : Array Value} {c : List Value} (ht : tyN P (d + 1) t = some τ) {q : Bool} (hB : OBlk q w b cs) (ho : o + τ.size ≤ cs.size) (hl : c.length = τ.size) (h1 : ∀ v ∈ c, v.oneCell' = true) :
  ∃ w', (storeVar t ⟨b, o, none⟩ (valOf τ c)).run P w = .ok () w' ∧ Chg w w' b o c ∧ w'.heap.size = w.heap.size := by
 obtain ⟨e, fz, hb, hf⟩ := hB
 obtain ⟨w', cs', k1, k2, k3, k4, k5, k6⟩ := run_storeCells' (P := P) (vs := c) (i := 0) (o := o) hb (fun j hj => ⟨by omega, hf.1 _ (by omega)⟩) h1
 refine ⟨w', ?_, ⟨k4, ⟨cs, e, fz, cs', hb, k2, by simpa using k3, by rw [hl]; exact ho⟩, k6⟩, k5⟩
 unfold storeVar
 simp only [Sem.run_bind, run_sizeOf' ht, Result.andThen_ok, cells_valOf hl h1]
 simp [hl, k1]
end
end Go.Rf

end
section
namespace Go.Rf
set_option linter.unusedSectionVars false
variable [T : Laid]
def vals (a : Act) : Nat → Option Value := fun i => a.tmps[i]?
theorem evl_eval {a : Act} {x : Operand} {v : Value} (h : evl (vals a) x = some v) : a.eval x = v := by
 cases x <;> simp only [evl, vals, Option.some.injEq, reduceCtorEq] at h <;> simp only [Act.eval]
 ·simp [h]
 ·exact h
 ·exact h
def DeadFrom (N : Nat) (g : View) : Prop := ∀ i, N ≤ i → (g i).sv = .dead
def OpSound (P : Program) (H : Nat → Option (List Value)) (S : Nat → Prop) (β : Key → Option Nat) (a : Act) (w : World) (o : Oper) (g' : View) : Prop :=
 ∀ (K : Act → World → Prop) (Q : Exit → Act → World → Prop),
  (∀ a' w' S' β', a'.tmps.size = a.tmps.size → a'.defers = a.defers → Rel H a.tmps.size g' (vals a') w' S' β' → Step w S β w' S' β' → K a' w') → o.wp P a w K Q
section
variable {P : Program} {H : Nat → Option (List Value)} {N : Nat} {g g' σ : View} {V V' : Nat → Option Value} {w w' : World} {S S' : Nat → Prop} {β β' : Key → Option Nat} {a : Act} {o : Oper}
theorem wp_value {K : Act → World → Prop} {Q : Exit → Act → World → Prop} {v : Value} (hr : (execOp a.eval o).run P w = .ok (.value v) w') (hK : K (a.put o.dst v) w') : o.wp P a w K Q := by
 unfold Oper.wp; rw [hr]; exact hK
theorem wp_skip' {K : Act → World → Prop} {Q : Exit → Act → World → Prop} (hr : (execOp a.eval o).run P w = .ok .skip w') (hK : K (a.put o.dst undef) w') : o.wp P a w K Q := by
 unfold Oper.wp; rw [hr]; exact hK
theorem vals_put {d : Nat} {v : Value} (hd : d < a.tmps.size) : vals (a.put (some d) v) = upd (vals a) d v := by
 funext i
 simp only [vals, Act.put, upd, Array.getElem?_setIfInBounds]
 split
 ·rename_i e; subst e; simp [hd]
 ·rename_i e; rw [if_neg (Ne.symm e)]
theorem put_size {d : Option Tmp} {v : Value} : (a.put d v).tmps.size = a.tmps.size := by cases d <;> simp [Act.put]
theorem put_defers {d : Option Tmp} {v : Value} : (a.put d v).defers = a.defers := by cases d <;> rfl
theorem ups_append {us vs : List Up} : g.ups (us ++ vs) = (g.ups us).ups vs := by
 induction us generalizing g with
 | nil => rfl
 | cons u us ih => exact ih
theorem DeadFrom.up (h : DeadFrom N g) {u : Up} (hu : u.slot < N) : DeadFrom N (g.up u) := fun i hi => by
 rw [up_ne (by omega)]; exact h i hi
theorem DeadFrom.ups (h : DeadFrom N g) {us : List Up} (hu : ∀ u ∈ us, u.slot < N) : DeadFrom N (g.ups us) := by
 induction us generalizing g with
 | nil => exact h
 | cons u us ih => exact ih (h.up (hu u (by simp))) (fun v hv => hu v (by simp [hv]))
theorem DeadFrom.lt (h : DeadFrom N g) {i : Nat} (hi : (g i).sv ≠ .dead) : i < N := by
 rcases Nat.lt_or_ge i N with hl | hl
 ·exact hl
 ·exact absurd (h i hl) hi
theorem Rel.finish {g1 : View} {V1 : Nat → Option Value} {d : Nat} {v : SV} {val : Value} {w1 w2 : World} {S1 S2 : Nat → Prop} {β1 β2 : Key → Option Nat}
  (h : Rel H N g1 V1 w1 S1 β1) (hg : ∀ i, i < N → g1 i = g i) (hd : DeadFrom N g) (hV : ∀ i, i < N → V1 i = V i) (hdN : d < N)
  (hs : Sane w2 S2 β2) (hS : ∀ b, S1 b → S2 b ∧ w2.heap[b]? = w1.heap[b]?)
  (hβ : ∀ j s b, j ≠ d → (g1 j).sv ≠ .dead → β1 (j :: s) = some b → β2 (j :: s) = some b ∧ w2.heap[b]? = w1.heap[b]?)
  (hn : SVRel H N (g1.up (.put d v)) (upd V1 d val) w2 S2 β2 d v) : Rel H N (g.up (.put d v)) (upd V d val) w2 S2 β2 := by
 have h1 : Rel H N (g1.up (.put d v)) (upd V1 d val) w2 S2 β2 := h.put hs hS hβ (fun j hj => by simp [upd, hj]) hn
 refine h1.fin (fun i hi => ?_) (hd.up hdN) (fun i hi => ?_)
 ·by_cases e : i = d
  ·subst e
   rw [show g.up (.put i v) i = _ from up_eq (u := .put i v), show g1.up (.put i v) i = _ from up_eq (u := .put i v)]
   show Up.on _ (g i) = Up.on _ (g1 i)
   rw [hg i hi]
  ·rw [up_ne (u := .put d v) e, up_ne (u := .put d v) e, hg i hi]
 ·simp only [upd]; split
  ·rfl
  ·exact (hV i hi).symm
theorem look_sound {us : List Up} {v : SV} {val : Value} {d : Nat} {g1 : View} {V1 : Nat → Option Value} {S1 : Nat → Prop} {β1 : Key → Option Nat} (ho : o.dst = some d) (hd : d < a.tmps.size)
  (h : Rel H a.tmps.size g1 V1 w S1 β1) (hst : Step w S β w S1 β1) (hg : ∀ i, i < a.tmps.size → g1 i = (g.ups us) i) (hD : DeadFrom a.tmps.size (g.ups us)) (hV : ∀ i, i < a.tmps.size → V1 i = vals a i)
  (hr : (execOp a.eval o).run P w = .ok (.value val) w)
  (hn : SVRel H a.tmps.size (g1.up (.put d v)) (upd V1 d val) w S1 β1 d v) : OpSound P H S β a w o (g.ups (us ++ [.put d v])) := by
 intro K Q hK
 refine wp_value hr (hK _ _ S1 β1 put_size put_defers ?_ hst)
 rw [ho, vals_put hd, ups_append]
 exact h.finish hg hD hV hd h.sane (fun b hb => ⟨hb, rfl⟩) (fun _ _ _ _ _ hb => ⟨hb, rfl⟩) hn
theorem look0 {v : SV} {val : Value} {d : Nat} (h : Rel H a.tmps.size g (vals a) w S β) (hD : DeadFrom a.tmps.size g) (ho : o.dst = some d) (hd : d < a.tmps.size)
  (hr : (execOp a.eval o).run P w = .ok (.value val) w)
  (hn : SVRel H a.tmps.size (g.up (.put d v)) (upd (vals a) d val) w S β d v) : OpSound P H S β a w o (g.ups [.put d v]) :=
 look_sound (us := []) ho hd h .refl (fun _ _ => rfl) hD (fun _ _ => rfl) hr hn
theorem put_at {d : Nat} {v : SV} {i : Nat} (h : i ≠ d) : g.up (.put d v) i = g i := up_ne (u := .put d v) h
theorem put_self {d : Nat} {v : SV} : g.up (.put d v) d = ⟨v, (g d).c + 1, (g d).s + 1, (g d).u + 1⟩ := up_eq (u := .put d v)
theorem outp_some {us vs : List Up} {v : SV} (h : outp o us v some = some vs) : ∃ d, o.dst = some d ∧ vs = us ++ [.put d v] := by
 unfold outp at h
 split at h
 ·rename_i d hd; simp only [Option.some.injEq] at h; exact ⟨d, hd, h.symm⟩
 ·cases h
theorem dat_free {d : Nat} {t : Ty} {x : t.D} {c : List Value} {val : Value} (hc : Rd S w t x c) (hv : val = valOf t c) : SVRel H N g (upd V d val) w S β d (.dat ⟨t, x, .sh⟩) :=
 ⟨c, VRel_sh.2 hc, by simp [upd, hv]⟩
theorem dat_int {d : Nat} {k : IntKind} {n : Int} : SVRel H N g (upd V d (.int k n)) w S β d (.dat ⟨.int k, n, .sh⟩) := dat_free (c := [.int k n]) (by simp [Rd]) rfl
theorem dat_bool {d : Nat} {b : Bool} : SVRel H N g (upd V d (.bool b)) w S β d (.dat ⟨.bool, b, .sh⟩) := dat_free (c := [.bool b]) (by simp [Rd]) rfl
theorem dat_str {d : Nat} {s : List UInt8} : SVRel H N g (upd V d (.string ⟨⟨s⟩⟩)) w S β d (.dat ⟨.str, s, .sh⟩) := dat_free (c := [.string ⟨⟨s⟩⟩]) (by simp [Rd]) rfl
theorem free_of_base {t : Ty} {f : Fl} {k : Key} {x : t.D} {c : List Value} (ht : t.agg = false) (hs : ∀ b, S b → S' b) (hn : (∀ a, t ≠ .sl a) ∧ ∀ a, t ≠ .ptr a) (hf : f.base ≠ .gone) (h : VRel S β H w k t f x c) : Rd S' w t x c := by
 cases t <;> simp [Ty.agg] at ht <;> simp only [VRel] at h <;> obtain ⟨_, h⟩ := h
 all_goals first
  | (exfalso; exact hn.1 _ rfl)
  | (exfalso; exact hn.2 _ rfl)
  | exact Rd_mono (fun b hb => ⟨hs b hb, rfl⟩) h
theorem int_of {x : Operand} {k : IntKind} {n : Int} {f : Fl} (h : Rel H N g V w S β) (hx : sv g x = .dat ⟨.int k, n, f⟩) (hf : f.base ≠ .gone) : evl V x = some (.int k n) := by
 rcases opnd_dat h hx with ⟨s, rfl, hs⟩ | ⟨_, c, hc, hr⟩
 ·obtain ⟨c, hv, hV⟩ := h.dat hs
  have := free_of_base (S' := S) (t := .int k) rfl (fun _ h => h) ⟨by simp, by simp⟩ hf hv
  simp only [Rd] at this; subst this; exact hV
 ·simp only [Rd] at hr; subst hr; exact hc
theorem bool_of {x : Operand} {n : Bool} {f : Fl} (h : Rel H N g V w S β) (hx : sv g x = .dat ⟨.bool, n, f⟩) (hf : f.base ≠ .gone) : evl V x = some (.bool n) := by
 rcases opnd_dat h hx with ⟨s, rfl, hs⟩ | ⟨_, c, hc, hr⟩
 ·obtain ⟨c, hv, hV⟩ := h.dat hs
  have := free_of_base (S' := S) (t := .bool) rfl (fun _ h => h) ⟨by simp, by simp⟩ hf hv
  simp only [Rd] at this; subst this; exact hV
 ·simp only [Rd] at hr; subst hr; exact hc
theorem str_of {x : Operand} {n : List UInt8} {f : Fl} (h : Rel H N g V w S β) (hx : sv g x = .dat ⟨.str, n, f⟩) (hf : f.base ≠ .gone) : evl V x = some (.string ⟨⟨n⟩⟩) := by
 rcases opnd_dat h hx with ⟨s, rfl, hs⟩ | ⟨_, c, hc, hr⟩
 ·obtain ⟨c, hv, hV⟩ := h.dat hs
  have := free_of_base (S' := S) (t := .str) rfl (fun _ h => h) ⟨by simp, by simp⟩ hf hv
  simp only [Rd] at this; subst this; exact hV
 ·simp only [Rd] at hr; subst hr; exact hc
end
end Go.Rf

end
section
namespace Go.Rf
set_option linter.unusedSectionVars false
variable [T : Laid]
def DV (w : World) (S : Nat → Prop) (d : Dat) (v : Value) : Prop := d.f = .sh ∧ ∃ c, Rd S w d.t d.x c ∧ v = valOf d.t c
section
variable {P : Program} {H : Nat → Option (List Value)} {N : Nat} {g g' σ : View} {V V' : Nat → Option Value} {w w' : World} {S S' : Nat → Prop} {β β' : Key → Option Nat} {a : Act} {o : Oper}
theorem DV.int {k : IntKind} {n : Int} : DV w S ⟨.int k, n, .sh⟩ (.int k n) := ⟨rfl, [.int k n], by simp [Rd], rfl⟩
theorem DV.bool {b : Bool} : DV w S ⟨.bool, b, .sh⟩ (.bool b) := ⟨rfl, [.bool b], by simp [Rd], rfl⟩
theorem DV.str {s : List UInt8} : DV w S ⟨.str, s, .sh⟩ (.string ⟨⟨s⟩⟩) := ⟨rfl, [.string ⟨⟨s⟩⟩], by simp [Rd], rfl⟩
theorem DV.look {d : Dat} {val : Value} {us : List Up} (hdv : DV w S d val) (h : Rel H a.tmps.size g (vals a) w S β) (hD : DeadFrom a.tmps.size g)
  (hi : opIn a.tmps.size o = true) (hk : outp o [] (.dat d) some = some us)
  (hr : (execOp a.eval o).run P w = .ok (.value val) w) : OpSound P H S β a w o (g.ups us) := by
 obtain ⟨dd, ho, rfl⟩ := outp_some hk
 have hd : dd < a.tmps.size := by
  unfold opIn at hi; rw [ho] at hi
  simp only [Bool.and_eq_true] at hi
  simpa [Nat.blt_eq] using hi.1
 obtain ⟨t, x, f⟩ := d
 obtain ⟨rfl, c, hc, hv⟩ := hdv
 exact look0 h hD ho hd hr (dat_free hc hv)
theorem sh_ne : Fl.sh.base ≠ .gone := by simp [Fl.base]
theorem bin_int {op : BinOp} {k : IntKind} {x y : Int} {k' : IntKind} {t : TypeId} {κ : Dat → Option (List Up)} {us : List Up} (h : intK op k x k' y κ = some us) :
  ∃ d val, κ d = some us ∧ DV w S d val ∧ (∀ S', DV w S' d val) ∧ (binOp op t (.int k x) (.int k' y)).run P w = .ok val w := by
 unfold intK at h
 split at h
 ·simp only [Bool.cond_eq_ite] at h
  split at h
  ·cases h
  ·rename_i hb
   exact ⟨_, _, h, DV.int, fun _ => DV.int, by simp only [decide_eq_true_eq, Int.not_lt] at hb; simp [binOp, Op.shift, Int.not_lt.2 hb]⟩
 ·simp only [Bool.cond_eq_ite] at h
  split at h
  ·cases h
  ·rename_i hb
   exact ⟨_, _, h, DV.int, fun _ => DV.int, by simp only [decide_eq_true_eq, Int.not_lt] at hb; simp [binOp, Op.shift, Int.not_lt.2 hb]⟩
 ·rename_i h1 h2
  split at h
  ·rename_i hk
   subst hk
   split at h
   ·exact ⟨_, _, h, DV.int, fun _ => DV.int, by simp [binOp, Op.intArith]⟩
   ·exact ⟨_, _, h, DV.int, fun _ => DV.int, by simp [binOp, Op.intArith]⟩
   ·exact ⟨_, _, h, DV.int, fun _ => DV.int, by simp [binOp, Op.intArith]⟩
   ·simp only [Bool.cond_eq_ite, eqI, decide_eq_true_eq] at h
    split at h
    ·cases h
    ·rename_i hb
     exact ⟨_, _, h, DV.int, fun _ => DV.int, by simp [binOp, Op.intDiv, hb]⟩
   ·simp only [Bool.cond_eq_ite, eqI, decide_eq_true_eq] at h
    split at h
    ·cases h
    ·rename_i hb
     exact ⟨_, _, h, DV.int, fun _ => DV.int, by simp [binOp, Op.intDiv, hb]⟩
   ·exact ⟨_, _, h, DV.int, fun _ => DV.int, by simp [binOp, Op.intBits, bitI]⟩
   ·exact ⟨_, _, h, DV.int, fun _ => DV.int, by simp [binOp, Op.intBits, bitI]⟩
   ·exact ⟨_, _, h, DV.int, fun _ => DV.int, by simp [binOp, Op.intBits, bitI]⟩
   ·exact ⟨_, _, h, DV.int, fun _ => DV.int, by simp [binOp, Op.intBits, bitI]⟩
   ·exact ⟨_, _, h, DV.bool, fun _ => DV.bool, by simp [binOp, Op.intCmp, eqI]; rfl⟩
   ·exact ⟨_, _, h, DV.bool, fun _ => DV.bool, by simp [binOp, Op.intCmp, eqI, bne]; rfl⟩
   ·exact ⟨_, _, h, DV.bool, fun _ => DV.bool, by simp [binOp, Op.intCmp]⟩
   ·exact ⟨_, _, h, DV.bool, fun _ => DV.bool, by simp [binOp, Op.intCmp]⟩
   ·exact ⟨_, _, h, DV.bool, fun _ => DV.bool, by simp [binOp, Op.intCmp]⟩
   ·exact ⟨_, _, h, DV.bool, fun _ => DV.bool, by simp [binOp, Op.intCmp]⟩
   ·cases h
  ·cases h
theorem lenOK_le {n : Nat} (h : lenOK n = true) : n ≤ 1099511627776 := by simpa [lenOK, Nat.ble_eq] using h
theorem bin_str {op : BinOp} {x y : List UInt8} {t : TypeId} {κ : Dat → Option (List Up)} {us : List Up} (h : strK op x y κ = some us) :
  ∃ d val, κ d = some us ∧ DV w S d val ∧ (binOp op t (.string ⟨⟨x⟩⟩) (.string ⟨⟨y⟩⟩)).run P w = .ok val w := by
 unfold strK at h
 split at h
 ·simp only [Bool.cond_eq_ite] at h
  split at h
  ·rename_i hb
   refine ⟨_, _, h, DV.str, ?_⟩
   have hb := lenOK_le hb
   rw [binOp_string_add, run_string_add_sum _ _ _ (by simp [ByteArray.size]; omega)]
   rw [ByteArray.mk_append_mk]
  ·cases h
 ·refine ⟨_, _, h, DV.bool, ?_⟩
  rw [binOp_string_eql, ByteArray.toList_mk, ByteArray.toList_mk]
  simp only [eqS, Sem.run_pure]; rw [show (x == y) = decide (x = y) by rw [Bool.eq_iff_iff]; simp]
 ·refine ⟨_, _, h, DV.bool, ?_⟩
  rw [binOp_string_neq, ByteArray.toList_mk, ByteArray.toList_mk]
  simp only [eqS, Sem.run_pure]; rw [show (x == y) = decide (x = y) by rw [Bool.eq_iff_iff]; simp]
 ·cases h
theorem bin_bool {x y : Bool} {t : TypeId} {d : Nat} (ht : tyN P (d + 1) t = some .bool) : ((binOp .eql t (.bool x) (.bool y)).run P w = .ok (.bool (eqB x y)) w) ∧ (binOp .neq t (.bool x) (.bool y)).run P w = .ok (.bool (!eqB x y)) w := by
 obtain ⟨i, u, h1, h2, h3, h4⟩ := tyN_inv ht
 have hu : u = .bool := by
  unfold TyShape at h4
  cases u <;> simp only [reduceCtorEq] at h4 <;> first
   | rfl
   | (obtain ⟨a, _, h⟩ := h4; cases h)
   | (rcases chain_agg h4 with h | ⟨_, _, h⟩ <;> cases h)
 subst hu
 have he : (x == y) = eqB x y := by cases x <;> cases y <;> rfl
 have hq : (Op.equal t (.bool x) (.bool y)).run P w = .ok (eqB x y) w := by
  rw [show Op.equal t (.bool x) (.bool y) = Op.equalIn (9999 + 1) t (.bool x) (.bool y) from rfl, run_equalIn_bool _ _ _ _ _ h2, he]
 constructor
 ·have : binOp .eql t (.bool x) (.bool y) = (do pure (.bool (← Op.equal t (.bool x) (.bool y)))) := rfl
  rw [this]; simp only [Sem.run_bind, hq, Result.andThen_ok, Sem.run_pure]
 ·have : binOp .neq t (.bool x) (.bool y) = (do pure (.bool (!(← Op.equal t (.bool x) (.bool y))))) := rfl
  rw [this]; simp only [Sem.run_bind, hq, Result.andThen_ok, Sem.run_pure]
theorem eqGuard_int {op : BinOp} {t : TypeId} {x y : Operand} {k k' : IntKind} {m n : Int} : (eqGuard op t x y (.int k m) (.int k' n)).run P w = .ok () w := by
 unfold eqGuard; cases op <;> simp
theorem eqGuard_str {op : BinOp} {t : TypeId} {x y : Operand} {m n : ByteArray} : (eqGuard op t x y (.string m) (.string n)).run P w = .ok () w := by
 unfold eqGuard; cases op <;> simp
theorem eqGuard_bool {op : BinOp} {t : TypeId} {x y : Operand} {m n : Bool} : (eqGuard op t x y (.bool m) (.bool n)).run P w = .ok () w := by
 unfold eqGuard; cases op <;> simp
theorem exec_bin {op : BinOp} {t : TypeId} {x y : Operand} {ρ : Operand → Value} {u v val : Value} (ho : ∃ q : TypeId, o.op = .binOp op t x y q) (hx : ρ x = u) (hy : ρ y = v) (hg : (eqGuard op t x y u v).run P w = .ok () w) (hr : (binOp op t u v).run P w = .ok val w) :
  (execOp ρ o).run P w = .ok (.value val) w := by
 obtain ⟨q, ho⟩ := ho
 unfold execOp
 simp only [ho, hx, hy, Sem.run_bind, hg, Result.andThen_ok, hr, Sem.run_pure]
structure Ctx (P : Program) (H : Nat → Option (List Value)) (S : Nat → Prop) (β : Key → Option Nat) (a : Act) (w : World) (o : Oper) (g : View) : Prop where
 rel : Rel H a.tmps.size g (vals a) w S β
 dead : DeadFrom a.tmps.size g
 opIn : opIn a.tmps.size o = true
variable {E : Env} {gv : View} {us : List Up}
theorem binK_sound {op : BinOp} {t tq : TypeId} {x y : Operand} (hc : Ctx E.P H S β a w o g) (hs : Sub gv g) (ho : o.op = .binOp op t x y tq)
  (hk : binK op (E.ty t) (sv gv x) (sv gv y) (fun d => outp o [] (.dat d) some) = some us) : OpSound E.P H S β a w o (g.ups us) := by
 unfold binK at hk
 split at hk
 ·rename_i k m k' n hx hy
  have ex := evl_eval (int_of hc.rel (hs.sv hx (by simp)) sh_ne)
  have ey := evl_eval (int_of hc.rel (hs.sv hy (by simp)) sh_ne)
  obtain ⟨d, val, h1, h2, _, h3⟩ := bin_int (P := E.P) (w := w) (S := S) (t := t) hk
  exact h2.look hc.rel hc.dead hc.opIn h1 (exec_bin ⟨_, ho⟩ ex ey eqGuard_int h3)
 ·rename_i m n hx hy
  have ex := evl_eval (str_of hc.rel (hs.sv hx (by simp)) sh_ne)
  have ey := evl_eval (str_of hc.rel (hs.sv hy (by simp)) sh_ne)
  obtain ⟨d, val, h1, h2, h3⟩ := bin_str (P := E.P) (w := w) (S := S) (t := t) hk
  exact h2.look hc.rel hc.dead hc.opIn h1 (exec_bin ⟨_, ho⟩ ex ey eqGuard_str h3)
 ·rename_i m n hx hy
  have ex := evl_eval (bool_of hc.rel (hs.sv hx (by simp)) sh_ne)
  have ey := evl_eval (bool_of hc.rel (hs.sv hy (by simp)) sh_ne)
  split at hk
  ·rename_i ht
   have hb := bin_bool (P := E.P) (w := w) (x := m) (y := n) ht
   split at hk
   ·exact DV.bool.look hc.rel hc.dead hc.opIn hk (exec_bin ⟨_, ho⟩ ex ey eqGuard_bool hb.1)
   ·exact DV.bool.look hc.rel hc.dead hc.opIn hk (exec_bin ⟨_, ho⟩ ex ey eqGuard_bool hb.2)
   ·cases hk
  ·cases hk
 ·cases hk
theorem unK_sound {op : UnOp} {t : TypeId} {x : Operand} (hc : Ctx E.P H S β a w o g) (hs : Sub gv g) (ho : o.op = .unOp op t x)
  (hk : unK op (sv gv x) (fun d => outp o [] (.dat d) some) = some us) : OpSound E.P H S β a w o (g.ups us) := by
 unfold unK at hk
 split at hk
 ·rename_i k n hx
  have ex := evl_eval (int_of hc.rel (hs.sv hx (by simp)) sh_ne)
  exact DV.int.look hc.rel hc.dead hc.opIn hk (by simp [execOp, ho, ex, Op.unary, Op.intArith, negI])
 ·rename_i k n hx
  have ex := evl_eval (int_of hc.rel (hs.sv hx (by simp)) sh_ne)
  exact DV.int.look hc.rel hc.dead hc.opIn hk (by simp [execOp, ho, ex, Op.unary, Op.intBits, bitI])
 ·rename_i n hx
  have ex := evl_eval (bool_of hc.rel (hs.sv hx (by simp)) sh_ne)
  exact DV.bool.look hc.rel hc.dead hc.opIn hk (by simp [execOp, ho, ex, Op.unary])
 ·cases hk
theorem pickK_sound {c x y : Operand} (hc : Ctx E.P H S β a w o g) (hs : Sub gv g) (ho : o.op = .pick c x y)
  (hk : pickK gv o c x y some = some us) : OpSound E.P H S β a w o (g.ups us) := by
 unfold pickK at hk
 split at hk
 ·rename_i t hx
  have ex := evl_eval (bool_of hc.rel (hs.sv hx (by simp)) sh_ne)
  have free : ∀ z d, freeSV (sv gv z) = some d → ∃ val, DV w S d val ∧ a.eval z = val := by
   intro z d hz
   unfold freeSV at hz
   split at hz
   ·rename_i d' hd
    split at hz
    ·rename_i hf
     simp only [Option.some.injEq] at hz; subst hz
     have hf := setD_of_free hf
     rcases opnd_dat hc.rel (hs.sv hd (by simp)) with ⟨s, rfl, hs'⟩ | ⟨_, c, hcc, hr⟩
     ·obtain ⟨c, hv, hV⟩ := hc.rel.dat hs'
      rw [hf, VRel_sh] at hv
      exact ⟨_, ⟨hf, c, hv, rfl⟩, evl_eval hV⟩
     ·exact ⟨_, ⟨hf, c, hr, rfl⟩, evl_eval hcc⟩
    ·cases hz
   ·cases hz
  cases t with
  | true =>
   simp only [cond_true] at hk
   split at hk
   ·rename_i d hd
    obtain ⟨val, h1, h2⟩ := free x d hd
    exact h1.look hc.rel hc.dead hc.opIn hk (by simp [execOp, ho, ex, asBool, h2])
   ·cases hk
  | false =>
   simp only [cond_false] at hk
   split at hk
   ·rename_i d hd
    obtain ⟨val, h1, h2⟩ := free y d hd
    exact h1.look hc.rel hc.dead hc.opIn hk (by simp [execOp, ho, ex, asBool, h2])
   ·cases hk
 ·cases hk
theorem ty_shape {t : TypeId} {τ : Ty} (h : E.ty t = some τ) : ∃ u, E.P.underlying t = some u ∧ TyShape E.P 7 u τ := by
 obtain ⟨i, u, h1, h2, h3, h4⟩ := tyN_inv h
 exact ⟨u, h2, h4⟩
theorem ty_int {t : TypeId} {k : IntKind} (h : E.ty t = some (.int k)) : E.P.underlying t = some (.int k) := by
 obtain ⟨u, h2, h4⟩ := ty_shape h
 unfold TyShape at h4
 cases u <;> simp only [reduceCtorEq, Ty.int.injEq] at h4 <;> first
  | (subst h4; exact h2)
  | (obtain ⟨a, _, h⟩ := h4; cases h)
  | (rcases chain_agg h4 with h | ⟨_, _, h⟩ <;> cases h)
theorem ty_str {t : TypeId} (h : E.ty t = some .str) : E.P.underlying t = some .string := by
 obtain ⟨u, h2, h4⟩ := ty_shape h
 unfold TyShape at h4
 cases u <;> simp only [reduceCtorEq] at h4 <;> first
  | exact h2
  | (obtain ⟨a, _, h⟩ := h4; cases h)
  | (rcases chain_agg h4 with h | ⟨_, _, h⟩ <;> cases h)
theorem tyN_sl {d : Nat} {t : TypeId} {τ : Ty} (h : tyN P (d + 1) t = some (.sl τ)) : ∃ e, P.underlying t = some (.slice e) ∧ tyN P d e = some τ := by
 obtain ⟨i, u, _, h2, _, h4⟩ := tyN_inv h
 unfold TyShape at h4
 cases u <;> simp only [reduceCtorEq] at h4 <;> first
  | (obtain ⟨a, ha, h⟩ := h4; simp only [reduceCtorEq, Ty.sl.injEq] at h; subst h; exact ⟨_, h2, ha⟩)
  | (obtain ⟨a, _, h⟩ := h4; cases h)
  | (rcases chain_agg h4 with h | ⟨_, _, h⟩ <;> cases h)
theorem tyN_arr {d : Nat} {t : TypeId} {τ : Ty} {n : Nat} (h : tyN P (d + 1) t = some (.arr n τ)) : ∃ e, P.underlying t = some (.array n e) ∧ tyN P d e = some τ := by
 obtain ⟨i, u, _, h2, _, h4⟩ := tyN_inv h
 unfold TyShape at h4
 cases u <;> simp only [reduceCtorEq] at h4 <;> first
  | (obtain ⟨a, ha, h⟩ := h4; simp only [reduceCtorEq, Ty.arr.injEq] at h; obtain ⟨rfl, rfl⟩ := h; exact ⟨_, h2, ha⟩)
  | (obtain ⟨a, _, h⟩ := h4; cases h)
  | (rcases chain_agg h4 with h | ⟨_, _, h⟩ <;> cases h)
theorem tyN_ptr {d : Nat} {t : TypeId} {τ : Ty} (h : tyN P (d + 1) t = some (.ptr τ)) : ∃ e, P.underlying t = some (.pointer e) ∧ tyN P d e = some τ := by
 obtain ⟨i, u, _, h2, _, h4⟩ := tyN_inv h
 unfold TyShape at h4
 cases u <;> simp only [reduceCtorEq] at h4 <;> first
  | (obtain ⟨a, ha, h⟩ := h4; simp only [reduceCtorEq, Ty.ptr.injEq] at h; subst h; exact ⟨_, h2, ha⟩)
  | (obtain ⟨a, _, h⟩ := h4; cases h)
  | (rcases chain_agg h4 with h | ⟨_, _, h⟩ <;> cases h)
theorem tyN_int {d : Nat} {t : TypeId} {k : IntKind} (h : tyN P (d + 1) t = some (.int k)) : P.underlying t = some (.int k) := by
 obtain ⟨i, u, _, h2, _, h4⟩ := tyN_inv h
 unfold TyShape at h4
 cases u <;> simp only [reduceCtorEq, Ty.int.injEq] at h4 <;> first
  | (subst h4; exact h2)
  | (obtain ⟨a, _, h⟩ := h4; cases h)
  | (rcases chain_agg h4 with h | ⟨_, _, h⟩ <;> cases h)
end
end Go.Rf

end
