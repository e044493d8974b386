/- The model's code, made ready for the evaluator. -/
import Derived.Test.YtodlgflkhcknaaaAFCore
namespace Go.AE
set_option linter.unusedVariables false
noncomputable section

/-- A constant without parts. -/
def ofVal1 : Value → Option AV
  | .bool x => some (.b x)
  | .int k n => some (.i k n)
  | .string s => some (.s (lenL s.data.toList 0) (natOfBytes s.data.toList))
  | .pointer none => some .nilp
  | .slice none 0 0 => some .nils
  | .map none => some .nilm
  | .nilFunc => some .nilf
  | .nilIface => some .nili
  | _ => none

def ofVals : List Value → Option (List AV)
  | [] => some []
  | v :: l => match ofVal1 v, ofVals l with
    | some v, some l => some (v :: l)
    | _, _ => none

def ofVal : Value → Option AV
  | .agg a => match ofVals a.toList with
    | some l => some (.agg l)
    | none => none
  | v => ofVal1 v

/-- Where a slot stands among those that the region has written. -/
def whereIs (t : Nat) (l : List Nat) : Nat → Option Nat :=
  @List.rec Nat (fun _ => Nat → Option Nat) (fun _ => none) (fun x _ ih j => @Bool.rec (fun _ => Option Nat) (ih (Nat.succ j)) (some j) (Nat.beq x (Nat.succ t))) l

/-- What is needed to make an operation ready: types; struct types whose values may be held against each other; the slots that are kept; those that the region has written, the last one first; how many slots there are. -/
structure CX where
  ty : T TypeInfo
  eqs : List Nat
  lv : T Unit
  loc : List Nat
  nt : Nat

def memN (t : Nat) (l : List Nat) : Bool := @List.rec Nat (fun _ => Bool) false (fun x _ ih => @Bool.rec (fun _ => Bool) ih true (Nat.beq x t)) l

def tysOf (P : Program) : T TypeInfo := T.ofList P.types.toList 0 .e
def funsOf (P : Program) : T Func := T.ofList P.funcs.toList 0 .e

def cOpd (X : CX) : Operand → Opd
  | .tmp t => match whereIs t X.loc 0 with
    | some j => .l j
    | none => match X.lv.get t with
      | some _ => .t t
      | none => .bad
  | .const v => match ofVal v with
    | some v => .c v
    | none => .bad
  | .global _ => .bad
  | .func f => .f f

def undT (Y : T TypeInfo) (t : TypeId) : Option TypeDesc := match Y.get t with
  | some i => match i.desc with
    | .named _ u => match Y.get u with
      | some j => some j.desc
      | none => none
    | d => some d
  | none => none

def zeroT (Y : T TypeInfo) (t : TypeId) : Option AV := match Y.get t with
  | some i => match i.zero with
    | some v => ofVal v
    | none => none
  | none => none

def sizeT (Y : T TypeInfo) (t : TypeId) : Option Nat := match Y.get t with
  | some i => some i.size
  | none => none

def bytesT (Y : T TypeInfo) (t : TypeId) : Option Nat := match Y.get t with
  | some i => some i.bytes
  | none => none

def aggT (Y : T TypeInfo) (t : TypeId) : Option Bool := match undT Y t with
  | some (.struct _) => some true
  | some (.array _ _) => some true
  | some _ => some false
  | none => none

/-- An element's zero value, if it has the size that the type tells. -/
def zeroS (Y : T TypeInfo) (t : TypeId) : Option (List AV × Nat) := match sizeT Y t, zeroT Y t with
  | some s, some z => match Nat.beq (lenL (cellsOf z) 0) s with
    | true => some (cellsOf z, s)
    | false => none
  | _, _ => none

def isByte (Y : T TypeInfo) (t : TypeId) : Bool := match undT Y t with
  | some (.int .u8) => true
  | _ => false

variable (X : CX)

def places (fields : Array Field) : List (Nat × Operand) → Option (List (Nat × Nat × Opd))
  | [] => some []
  | (i, x) :: l => match fields[i]?, places fields l with
    | some f, some r => match sizeT X.ty f.type with
      | some s => some ((f.offset, s, cOpd X x) :: r)
      | none => none
    | _, _ => none

def placesA (size : Nat) : List (Nat × Operand) → List (Nat × Nat × Opd)
  | [] => []
  | (i, x) :: l => (Nat.mul i size, size, cOpd X x) :: placesA size l

def fieldsKnown (Y : T TypeInfo) : List Field → Bool
  | [] => true
  | f :: l => match sizeT Y f.type with
    | some _ => fieldsKnown Y l
    | none => false

def pu (p : POp) : Option COp := some (.pu p)
def rd (r : ROp) : Option COp := some (.rd r)
def al (r : AOp) : Option COp := some (.al r)
def ef (e : EOp) : Option COp := some (.ef e)

/-- Is an operand the nil of such a type: a pointer's (0), a slice's (1), a map's (2), a function's (3), an interface's (4)? -/
def isNilC : Nat → Operand → Bool
  | 0, .const (.pointer none) => true
  | 1, .const (.slice none 0 0) => true
  | 2, .const (.map none) => true
  | 3, .const .nilFunc => true
  | 4, .const .nilIface => true
  | _, _ => false

def cNil (neg : Bool) (c : Nat) (x y : Operand) : Option COp :=
  match isNilC c y, isNilC c x with
  | true, _ => pu (.isnil neg c (cOpd X x))
  | false, true => pu (.isnil neg c (cOpd X y))
  | false, false => none

/-- A type whose values are truth values (0), numbers (1), strings (2). -/
def kindT (Y : T TypeInfo) (t : TypeId) : Option Nat := match undT Y t with
  | some .bool => some 0
  | some (.int _) => some 1
  | some .string => some 2
  | _ => none

/-- The kinds of fields that lie one behind another. -/
def kindsOf (Y : T TypeInfo) : List Field → Nat → Option (List Nat)
  | [], _ => some []
  | f :: l, i => match kindT Y f.type, Nat.beq f.offset i, kindsOf Y l (Nat.succ i) with
    | some k, true, some r => some (k :: r)
    | _, _, _ => none

/-- '==' of values that are neither numbers nor strings. -/
def cEq (neg : Bool) (t : TypeId) (d : TypeDesc) (x y : Operand) : Option COp :=
  match d with
  | .bool => pu (.eqb neg (cOpd X x) (cOpd X y))
  | .struct fs => match memN t X.eqs, kindsOf X.ty fs.toList 0 with
    | true, some ks => pu (.eql neg ks (cOpd X x) (cOpd X y))
    | _, _ => none
  | .pointer e => match sizeT X.ty e with
    | some _ => cNil X neg 0 x y
    | none => none
  | .slice _ => cNil X neg 1 x y
  | .map _ _ => cNil X neg 2 x y
  | .func _ _ _ => cNil X neg 3 x y
  | .interface _ => cNil X neg 4 x y
  | _ => none

def cBin (op : BinOp) (t : TypeId) (x y : Operand) : Option COp :=
  match undT X.ty t with
  | some (.int _) => pu (.bin op (cOpd X x) (cOpd X y))
  | some .string => pu (.bin op (cOpd X x) (cOpd X y))
  | some d => match op with
    | .eql => cEq X false t d x y
    | .neq => cEq X true t d x y
    | _ => none
  | none => none

def cApp (x y : Operand) (t u : TypeId) : Option COp :=
  match undT X.ty t with
  | some (.slice e) => match zeroS X.ty e, bytesT X.ty e with
    | some (_, s + 1), some (b + 1) => match undT X.ty u with
      | some (.slice _) => ef (.app (Nat.succ s) (Nat.succ b) (cOpd X x) (cOpd X y))
      | some .string => ef (.app (Nat.succ s) (Nat.succ b) (cOpd X x) (cOpd X y))
      | _ => none
    | _, _ => none
  | _ => none

def cCopy (x y : Operand) (t : TypeId) : Option COp :=
  match undT X.ty t with
  | some (.slice e) => match sizeT X.ty e with
    | some s => ef (.copy s (cOpd X x) (cOpd X y))
    | _ => none
  | _ => none

def cLen (x : Operand) (t : TypeId) : Option COp :=
  match undT X.ty t with
  | some (.map _ _) => rd (.lenm (cOpd X x))
  | some .string => pu (.lens (cOpd X x))
  | some (.slice _) => pu (.len (cOpd X x))
  | _ => none

def isIntT (t : TypeId) : Bool := match undT X.ty t with
  | some (.int _) => true
  | _ => false

def cCall (c : Call) (t : TypeId) : Option COp :=
  match c.callee with
  | .builtin .len => match c.args.toList, c.argTypes.toList with
    | [x], [t] => cLen X x t
    | _, _ => none
  | .builtin .append => match c.args.toList, c.argTypes.toList with
    | [x, y], [t, u] => cApp X x y t u
    | _, _ => none
  | .builtin .copy => match c.args.toList, c.argTypes.toList with
    | [x, y], t :: _ => cCopy X x y t
    | _, _ => none
  | .builtin .max => match c.args.toList, isIntT X t with
    | [x, y], true => pu (.mx (cOpd X x) (cOpd X y))
    | _, _ => none
  | .builtin .min => match c.args.toList, isIntT X t with
    | [x, y], true => pu (.mn (cOpd X x) (cOpd X y))
    | _, _ => none
  | .value f => ef (.call (cOpd X f) (c.args.toList.map (cOpd X)))
  | _ => none

def cBuild (t : TypeId) (parts : List (Nat × Operand)) : Option COp :=
  match undT X.ty t, zeroT X.ty t with
  | some (.struct fs), some z => match fieldsKnown X.ty fs.toList, places X fs parts with
    | true, some ps => pu (.bld (cellsOf z) ps)
    | _, _ => none
  | some (.array _ e), some z => match sizeT X.ty e with
    | some s => pu (.bld (cellsOf z) (placesA X s parts))
    | none => none
  | _, _ => none

def cConv (s d : TypeId) (x : Operand) : Option COp :=
  match undT X.ty s, undT X.ty d with
  | some (.int _), some (.int k) => pu (.cvi k (cOpd X x))
  | some .string, some .string => pu (.cvid (cOpd X x))
  | some .string, some (.slice e) => match isByte X.ty e with
    | true => al (.s2b (cOpd X x))
    | false => none
  | some (.slice e), some .string => match isByte X.ty e with
    | true => rd (.b2s (cOpd X x))
    | false => none
  | _, _ => none

/-- The kind of a map's keys: numbers, or strings. -/
def keyT (t : TypeId) : Option Nat := match undT X.ty t with
  | some (.int _) => some 1
  | some .string => some 2
  | _ => none

def cOp (o : Op) (t : TypeId) : Option COp :=
  match o with
  | .move x => pu (.mv (cOpd X x))
  | .assign x => pu (.mv (cOpd X x))
  | .pick c a b => pu (.pick (cOpd X c) (cOpd X a) (cOpd X b))
  | .alloc t => match zeroT X.ty t with
    | some z => al (.new (cellsOf z))
    | none => none
  | .box _ x => al (.box (cOpd X x))
  | .build t parts => cBuild X t parts.toList
  | .buildSlice t len parts => match undT X.ty t with
    | some (.slice e) => match zeroS X.ty e with
      | some (z, s + 1) => match Nat.ble (Nat.mul len (Nat.succ s)) 16777216 with
        | true => al (.bsl z (Nat.succ s) len (placesA X (Nat.succ s) parts.toList))
        | false => none
      | _ => none
    | _ => none
  | .load t a => match aggT X.ty t, sizeT X.ty t with
    | some true, some n => rd (.ldn n (cOpd X a))
    | some false, some _ => rd (.ld (cOpd X a))
    | _, _ => none
  | .store t a x => match sizeT X.ty t with
    | some n => ef (.st n (cOpd X a) (cOpd X x))
    | none => none
  | .nilCheck x => pu (.nilck (cOpd X x))
  | .binOp op t x y _ => cBin X op t x y
  | .unOp op _ x => match op with
    | .not => pu (.not (cOpd X x))
    | .neg => pu (.neg (cOpd X x))
    | .xor => pu (.cpl (cOpd X x))
    | _ => none
  | .convert s d x => cConv X s d x
  | .makeInterface t x => match undT X.ty t with
    | some (.interface _) => none
    | some _ => pu (.mkif t (cOpd X x))
    | none => none
  | .makeFunc fn first caps => match fn with
    | .func f => pu (.mkf f (first.toList.map (cOpd X)) (caps.toList.map (cOpd X)))
    | _ => none
  | .makeMap t r => match undT X.ty t with
    | some (.map _ _) => match r with
      | none => al .mkm
      | some (.const (.int _ _)) => al .mkm
      | _ => none
    | _ => none
  | .makeSlice t l c => match undT X.ty t with
    | some (.slice e) => match zeroS X.ty e, bytesT X.ty e with
      | some (z, s + 1), some b => al (.mks z (Nat.succ s) b (cOpd X l) (cOpd X c))
      | _, _ => none
    | _ => none
  | .slice t x lo hi mx => match undT X.ty t with
    | some .string => match mx with
      | none => pu (.slcs (cOpd X x) (lo.map (cOpd X)) (hi.map (cOpd X)))
      | some _ => none
    | some (.slice e) => match sizeT X.ty e, hi, mx with
      | some s, some hi, some mx => pu (.slc s (cOpd X x) (lo.map (cOpd X)) (some (cOpd X hi)) (some (cOpd X mx)))
      | some s, hi, none => pu (.slc s (cOpd X x) (lo.map (cOpd X)) (hi.map (cOpd X)) none)
      | _, _, _ => none
    | _ => none
  | .fieldAddr t x f => match undT X.ty t with
    | some (.struct fs) => match fs[f]? with
      | some f => match sizeT X.ty f.type with
        | some (_ + 1) => pu (.fad f.offset (cOpd X x))
        | _ => none
      | none => none
    | _ => none
  | .field t x f => match undT X.ty t with
    | some (.struct fs) => match fs[f]? with
      | some f => match sizeT X.ty f.type, aggT X.ty f.type with
        | some s, some g => pu (.fld f.offset s g (cOpd X x))
        | _, _ => none
      | none => none
    | _ => none
  | .indexAddr t x i => match undT X.ty t with
    | some (.slice e) => match sizeT X.ty e with
      | some s => pu (.iad s (cOpd X x) (cOpd X i))
      | none => none
    | some (.array n e) => match sizeT X.ty e with
      | some s => pu (.iada n s (cOpd X x) (cOpd X i))
      | none => none
    | _ => none
  | .index t x i => match undT X.ty t with
    | some .string => pu (.idxs (cOpd X x) (cOpd X i))
    | some (.array n e) => match sizeT X.ty e, aggT X.ty e with
      | some s, some g => pu (.idxa n s g (cOpd X x) (cOpd X i))
      | _, _ => none
    | _ => none
  | .lookup t m k ok => match undT X.ty t with
    | some (.map kt e) => match keyT X kt, zeroT X.ty e with
      | some c, some z => rd (.lk z ok c (cOpd X m) (cOpd X k))
      | _, _ => none
    | _ => none
  | .mapUpdate t m k x => match undT X.ty t with
    | some (.map kt _) => match keyT X kt with
      | some c => ef (.mup c (cOpd X m) (cOpd X k) (cOpd X x))
      | none => none
    | _ => none
  | .insert t m k x => match undT X.ty t with
    | some (.map kt _) => match keyT X kt with
      | some c => ef (.mup c (cOpd X m) (cOpd X k) (cOpd X x))
      | none => none
    | _ => none
  | .extract x i => pu (.ext (cOpd X x) i)
  | .call c => cCall X c t
  | _ => none

/-- The slot that an operation writes lives on, or not; none: there is no such slot. -/
def liveOf (d : Option Nat) : Option (Option Nat) := match d with
  | none => some none
  | some d => match Nat.ble (Nat.succ d) X.nt with
    | false => none
    | true => match X.lv.get d with
      | some _ => some (some d)
      | none => some none

def cOper (ops : Array Oper) (o : Oper) : Option COper :=
  match cOp X o.op o.type, liveOf X o.dst with
  | some c, some live => match o.guard with
    | none => some ⟨live, none, c, 0, 0⟩
    | some (j, w) => match ops[j]? with
      | some g => match g.dst with
        | some t => some ⟨live, some (cOpd X (.tmp t), w), c, 0, 0⟩
        | none => none
      | none => none
  | _, _ => none

/-- A slot as a number from 1 on; 0: none. -/
def slotOf (d : Option Nat) : Nat := @Option.rec Nat (fun _ => Nat) 0 Nat.succ d

def CX.at (X : CX) (loc : List Nat) : CX := ⟨X.ty, X.eqs, X.lv, loc, X.nt⟩

def cOpers (ops : Array Oper) : List Oper → List Nat → Option (List COper)
  | [], _ => some []
  | o :: l, loc => match cOper (X.at loc) ops o with
    | none => none
    | some c => match cOpers ops l (slotOf o.dst :: loc) with
      | some r => some (c :: r)
      | none => none

/- A region whose order is open. -/
def bit (n : Nat) : Nat := Nat.shiftLeft 1 n
/-- A slot's bit; none where there is no slot. -/
def bitS (s : Nat) : Nat := @Nat.rec (fun _ => Nat) 0 (fun s _ => bit (Nat.succ s)) s
def maskOf : List Operand → Nat → Nat
  | [], m => m
  | .tmp t :: l, m => maskOf l (Nat.lor (bit (Nat.succ t)) m)
  | _ :: l, m => maskOf l m

/-- What is known of an operation: its place; the slot it writes, those it reads (each a bit); what must be behind it; does it make, does it change? -/
structure DI where
  i : Nat
  dst : Nat
  look : Nat
  bef : Nat
  al : Bool
  ef : Bool

def isAl (o : COp) : Bool := @COp.rec (fun _ => Bool) (fun _ => false) (fun _ => false) (fun _ => true) (fun _ => false) o

def befOf (acc : T Nat) : List Edge → Nat → Nat
  | [], m => m
  | e :: l, m => match Region.binds .any e with
    | true => befOf acc l (Nat.lor (Nat.lor (bit e.on) (@Option.rec Nat (fun _ => Nat) 0 (fun x => x) (acc.get e.on))) m)
    | false => befOf acc l m

def edgesOK (i : Nat) : List Edge → Bool
  | [] => true
  | e :: l => match Region.binds .any e with
    | true => andB (Nat.ble (Nat.succ e.on) i) (edgesOK i l)
    | false => edgesOK i l

def dInfo (ops : Array Oper) : List Oper → List COper → Nat → T Nat → Option (List DI)
  | [], [], _, _ => some []
  | o :: l, c :: cs, i, acc => match edgesOK i o.after.toList with
    | false => none
    | true => match dInfo ops l cs (Nat.succ i) (T.set (befOf acc o.after.toList 0) acc i) with
      | none => none
      | some r => some (⟨i, bitS (slotOf o.dst),
          maskOf o.op.operands.toList (match o.guard with
            | none => 0
            | some (j, _) => match ops[j]? with
              | some g => bitS (slotOf g.dst)
              | none => 0),
          befOf acc o.after.toList 0, isAl c.op, isEf c.op⟩ :: r)
  | _, _, _, _ => none

def pairOK (x y : DI) : Bool :=
  @Bool.rec (fun _ => Bool)
    (andB (Nat.beq (Nat.land x.dst (Nat.lor y.look y.dst)) 0) (andB (Nat.beq (Nat.land y.dst x.look) 0) (@Bool.rec (fun _ => Bool) true (@Bool.rec (fun _ => Bool) (notB x.al) false x.ef) y.ef)))
    true (Nat.testBit y.bef x.i)

def pairsOK : List DI → Bool
  | [] => true
  | x :: l => andB (l.all (pairOK x)) (pairsOK l)

def countD (f : DI → Bool) : List DI → Nat → Nat
  | [], n => n
  | x :: l, n => @Bool.rec (fun _ => Nat) (countD f l n) (countD f l (Nat.succ n)) (f x)

def withLoHi (all : List DI) : List DI → List COper → List COper
  | x :: l, c :: cs => ⟨c.live, c.guard, c.op, countD (fun e => andB e.ef (Nat.testBit x.bef e.i)) all 0, countD (fun e => andB e.ef (notB (Nat.testBit e.bef x.i))) all 0⟩ :: withLoHi all l cs
  | _, _ => []

def cReg (ops : Array Oper) (draw : Bool) : CCode := match cOpers X ops ops.toList [] with
  | none => .bad
  | some l => match draw with
    | false => .reg l
    | true => match dInfo ops ops.toList l 0 .e with
      | none => .bad
      | some d => match pairsOK d with
        | true => .dreg (withLoHi d d l)
        | false => .bad

def cCode : Code → CCode
  | .skip => .skip
  | .region _ ops draw => cReg X ops draw
  | .seq a b => .seq (cCode a) (cCode b)
  | .cond c a b => .cond (cOpd (X.at []) c) (cCode a) (cCode b)
  | .block id c => .block id (cCode c)
  | .loop c => .loop (cCode c)
  | .exit id => .exit id
  | .scope c => cCode c
  | .label _ => .skip
  | .ret => .ret
  | _ => .bad

/- The slots that are read where their region has not written them. -/
def reads1 (loc : List Nat) : List Operand → T Unit → T Unit
  | [], t => t
  | .tmp n :: l, t => match whereIs n loc 0 with
    | some _ => reads1 loc l t
    | none => reads1 loc l (T.set () t n)
  | _ :: l, t => reads1 loc l t

def readsR : List Oper → List Nat → T Unit → T Unit
  | [], _, t => t
  | o :: l, loc, t => readsR l (slotOf o.dst :: loc) (reads1 loc o.op.operands.toList t)

def readsC : Code → T Unit → T Unit
  | .region _ ops _, t => readsR ops.toList [] t
  | .seq a b, t => readsC b (readsC a t)
  | .cond c a b, t => readsC b (readsC a (reads1 [] [c] t))
  | .block _ c, t => readsC c t
  | .loop c, t => readsC c t
  | .scope c, t => readsC c t
  | _, t => t

def readsV : List ResultVar → T Unit → T Unit
  | [], t => t
  | .tmp n :: l, t => readsV l (T.set () t n)
  | .cell n _ :: l, t => readsV l (T.set () t n)

def lvOf (c : Code) (r : List ResultVar) : T Unit := readsC c (readsV r .e)

def cRes : List ResultVar → Option (List CRes)
  | [] => some []
  | .tmp t :: l => match X.lv.get t, cRes l with
    | some _, some r => some (.tmp t :: r)
    | _, _ => none
  | .cell a t :: l => match X.lv.get a, sizeT X.ty t, aggT X.ty t, cRes l with
    | some _, some s, some g, some r => some (.cell a s g :: r)
    | _, _, _, _ => none

def cFunc (ty : T TypeInfo) (eqs : List Nat) (f : Func) : Option CFunc := match f.body with
  | some c => match cRes ⟨ty, eqs, lvOf c f.results.toList, [], f.ntmps⟩ f.results.toList with
    | some r => some ⟨cCode ⟨ty, eqs, lvOf c f.results.toList, [], f.ntmps⟩ c, r⟩
    | none => none
  | none => none

def tabOf (ty : T TypeInfo) (eqs : List Nat) (F : T Func) : Nat → Option CFunc := fun f => @Option.rec Func (fun _ => Option CFunc) none (fun f => cFunc ty eqs f) (F.get f)

end
end Go.AE
