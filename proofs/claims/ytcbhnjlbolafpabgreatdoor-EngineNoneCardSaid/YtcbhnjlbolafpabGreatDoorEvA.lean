/- An abstract evaluator of the model's code: its definitions. (A run that it answers is a run of the machine: the texts behind this one.) -/
import GoSem.Step
namespace Go.Ev

/-! Tries on the numbers below 4^d. -/
structure Q (α : Type) where
  (a b c d : α)
def PT (α : Type) : Nat → Type
  | 0 => α
  | n + 1 => Q (PT α n)
def PT.full {α : Type} (x : α) : (d : Nat) → PT α d
  | 0 => x
  | d + 1 => (⟨PT.full x d, PT.full x d, PT.full x d, PT.full x d⟩ : Q (PT α d))
def Q.get {α : Type} (x : Q α) (i : Nat) : α := bif Nat.beq i 0 then x.a else bif Nat.beq i 1 then x.b else bif Nat.beq i 2 then x.c else x.d
def Q.upd {α : Type} (x : Q α) (i : Nat) (f : α → α) : Q α :=
  bif Nat.beq i 0 then ⟨f x.a, x.b, x.c, x.d⟩ else bif Nat.beq i 1 then ⟨x.a, f x.b, x.c, x.d⟩ else bif Nat.beq i 2 then ⟨x.a, x.b, f x.c, x.d⟩ else ⟨x.a, x.b, x.c, f x.d⟩
def PT.get {α : Type} : (d : Nat) → PT α d → Nat → α
  | 0, x, _ => x
  | d + 1, x, n => PT.get d (Q.get (α := PT α d) x (Nat.mod n 4)) (Nat.div n 4)
def PT.set {α : Type} : (d : Nat) → PT α d → Nat → α → PT α d
  | 0, _, _, v => v
  | d + 1, x, n, v => Q.upd (α := PT α d) x (Nat.mod n 4) fun y => PT.set d y (Nat.div n 4) v

abbrev T (α : Type) (d : Nat) : Type := PT (Option α) d
def T.get {α : Type} (d : Nat) (t : T α d) (n : Nat) : Option α := bif Nat.blt n (4 ^ d) then PT.get d t n else none
def T.set {α : Type} (d : Nat) (t : T α d) (n : Nat) (a : α) : T α d := bif Nat.blt n (4 ^ d) then PT.set d t n (some a) else t
def T.nil {α : Type} (d : Nat) : T α d := PT.full none d
instance {α : Type} {d : Nat} : Inhabited (T α d) := ⟨T.nil d⟩
def HD : Nat := 7
def TD : Nat := 4
def HN : Nat := 16384
def TN : Nat := 256

/-! Values. -/
inductive V where
  | bool (b : Bool)
  | int (k : IntKind) (n : Int)
  | str (s : List UInt8)
  | ptr (b o : Nat)
  | nilp
  | slice (b o len cap : Nat) (sl : Bool)
  | etail (b o o' : Nat)
  | nils
  | map (r : Nat)
  | nilm
  | func (f : Fn) (first cap : List V)
  | nilf
  | iface (t : TypeId) (v : V)
  | nili
  | agg (l : List V)
  | tup (l : List V)
  deriving Inhabited

def undef : V := .tup []

structure PE where
  v : V
  rcv : Bool
  deriving Inhabited

inductive Dfr where
  | fn (f : Fn) (cap args : List V)
  | coll (r : Nat)
  deriving Inhabited

structure Act where
  tmps : T V TD
  size : Nat
  defers : List Dfr
  rc : Option (List PE)
  deriving Inhabited

inductive Blk where
  | cells (l : List V) (x : Bool) (esz : Nat)
  /-- the entries; when each was born (in some order), and the clock, if that is known -/
  | map (es : List (V × V)) (bo : Option (List Nat × Nat))
  /-- the map; since when, what was seen, the last step's clock, if that is known -/
  | iter (m : Option Nat) (x : Option (Nat × List Nat × Nat))
  | striter (s : List UInt8) (pos : Nat)
  | loop (st : LoopState) (pend : Option Code) (tmps : T V TD) (size : Nat) (params : List Tmp) (asg body : Code)
  | defd
  | dead
  deriving Inhabited

structure St where
  heap : T Blk HD
  next : Nat
  deriving Inhabited


def St.get (s : St) (b : Nat) : Option Blk := T.get HD s.heap b
def St.set (s : St) (b : Nat) (x : Blk) : St := ⟨T.set HD s.heap b x, s.next⟩
def St.new (s : St) (x : Blk) : Option (Nat × St) :=
  bif Nat.blt s.next HN then some (s.next, ⟨T.set HD s.heap s.next x, Nat.succ s.next⟩) else none

def Act.get (a : Act) (t : Nat) : V := (T.get TD a.tmps t).getD undef
def Act.put (a : Act) (dst : Option Tmp) (v : V) : Act :=
  match dst with
  | some d => bif Nat.blt d a.size then ⟨T.set TD a.tmps d v, a.size, a.defers, a.rc⟩ else a
  | none => a

/-! Constants. -/
def ofCell : Value → Option V
  | .bool b => some (.bool b)
  | .int k n => some (.int k n)
  | .string s => some (.str s.data.toList)
  | .pointer none => some .nilp
  | .slice none 0 0 => some .nils
  | .map none => some .nilm
  | .nilFunc => some .nilf
  | .nilIface => some .nili
  | _ => none
def ofCells : List Value → Option (List V)
  | [] => some []
  | v :: l => (ofCell v).bind fun a => (ofCells l).map fun b => a :: b
def ofValue : Value → Option V
  | .agg cs => (ofCells cs.toList).map .agg
  | .tuple cs => (ofCells cs.toList).map .tup
  | .func (.func f) first cap => bif first.toList.isEmpty && cap.toList.isEmpty then some (.func (.func f) [] []) else none
  | v => ofCell v

def Act.eval (a : Act) : Operand → Option V
  | .tmp t => some (a.get t)
  | .const v => ofValue v
  | .global _ => none
  | .func f => some (.func (.func f) [] [])

def evals (a : Act) : List Operand → Option (List V)
  | [] => some []
  | x :: l => (a.eval x).bind fun v => (evals a l).map fun w => v :: w
def evalP (a : Act) : List (Nat × Operand) → Option (List (Nat × V))
  | [] => some []
  | (i, x) :: l => (a.eval x).bind fun v => (evalP a l).map fun w => (i, v) :: w
def evalO (a : Act) : Option Operand → Option (Option V)
  | none => some none
  | some x => (a.eval x).map some

def cellsOf : V → List V
  | .agg l => l
  | v => [v]
def V.one : V → Bool
  | .agg _ => false
  | .tup _ => false
  | _ => true

/-! What a value is. -/
def asPtr : V → Option (Nat × Nat)
  | .ptr b o => some (b, o)
  | _ => none
def asBoolV : V → Option Bool
  | .bool b => some b
  | _ => none
def natOf : V → Option Nat
  | .int _ (.ofNat n) => some n
  | _ => none
def asAggV : V → Option (List V)
  | .agg l => some l
  | _ => none
def asTup : V → Option (List V)
  | .tup l => some l
  | _ => none

/-! Cells. -/
def takeN : Nat → List V → Option (List V)
  | 0, _ => some []
  | n + 1, v :: l => (takeN n l).map fun m => v :: m
  | _ + 1, [] => none
def overlay : List V → List V → Option (List V)
  | l, [] => some l
  | _ :: l, v :: vs => bif v.one then (overlay l vs).map fun m => v :: m else none
  | [], _ :: _ => none
def putAt : Nat → List V → List V → Option (List V)
  | 0, l, vs => overlay l vs
  | o + 1, x :: l, vs => (putAt o l vs).map fun m => x :: m
  | _ + 1, [], _ => none
def allOne : List V → Bool
  | [] => true
  | v :: l => v.one && allOne l
def repeatL (z : List V) : Nat → List V
  | 0 => []
  | n + 1 => z ++ repeatL z n

def asCells : Blk → Option (List V)
  | .cells l _ _ => some l
  | _ => none
def St.row (s : St) (b : Nat) : Option (List V) := (s.get b).bind asCells
/-- the cells of a block from o on, n of them -/
def St.cells (s : St) (b o n : Nat) : Option (List V) := (s.row b).bind fun l => takeN n (l.drop o)
def putBlk (o : Nat) (vs : List V) : Blk → Option Blk
  | .cells l x e => (putAt o l vs).map fun l' => .cells l' x e
  | _ => none
def St.write (s : St) (b o : Nat) (vs : List V) : Option St := (s.get b).bind fun x => (putBlk o vs x).map fun y => s.set b y
def St.newRow (s : St) (cs : List V) (x : Bool) (esz : Nat) : Option (Nat × St) :=
  bif allOne cs then s.new (.cells cs x esz) else none

section
variable (P : Program)

def szOf (t : TypeId) : Option Nat := (P.info? t).map (·.size)
def isAggD : TypeDesc → Bool
  | .struct _ => true
  | .array _ _ => true
  | _ => false
def agg? (t : TypeId) : Option Bool := (P.underlying t).map isAggD
def zeroV (t : TypeId) : Option V := (P.info? t).bind fun i => i.zero.bind ofValue
def zeroOf (t : TypeId) : Option (List V) := (zeroV P t).map cellsOf

def partOf (t : TypeId) (cs : List V) (off : Nat) : Option V :=
  (agg? P t).bind fun a => bif a then (szOf P t).bind fun n => (takeN n (cs.drop off)).map .agg else (cs.drop off).head?
def ldVar (s : St) (t : TypeId) (b o : Nat) : Option V := (s.row b).bind fun l => partOf P t l o
def stVar (s : St) (t : TypeId) (b o : Nat) (v : V) : Option St :=
  (szOf P t).bind fun n => bif Nat.beq (cellsOf v).length n then s.write b o (cellsOf v) else none

/-! Comparing. -/
def kEq (a b : IntKind) : Bool := Nat.beq a.ctorIdx b.ctorIdx
def strEq : List UInt8 → List UInt8 → Bool
  | [], [] => true
  | a :: l, b :: m => bif Nat.beq a.toNat b.toNat then strEq l m else false
  | _, _ => false
def strLt : List UInt8 → List UInt8 → Bool
  | _, [] => false
  | [], _ :: _ => true
  | a :: l, b :: m => bif Nat.blt a.toNat b.toNat then true else bif Nat.beq a.toNat b.toNat then strLt l m else false
def intEq : Int → Int → Bool
  | .ofNat a, .ofNat b => Nat.beq a b
  | .negSucc a, .negSucc b => Nat.beq a b
  | _, _ => false
def intLt : Int → Int → Bool
  | .ofNat a, .ofNat b => Nat.blt a b
  | .negSucc a, .negSucc b => Nat.blt b a
  | .negSucc _, .ofNat _ => true
  | .ofNat _, .negSucc _ => false
def boolEq : Bool → Bool → Bool
  | true, b => b
  | false, b => !b

/-- values of a basic type, compared by content -/
def basicEq : TypeDesc → V → V → Option Bool
  | .bool, .bool a, .bool b => some (boolEq a b)
  | .int _, .int k a, .int k' b => bif kEq k k' then some (intEq a b) else none
  | .string, .str a, .str b => some (strEq a b)
  | _, _, _ => none
def allEq (u : TypeDesc) : List V → List V → Option Bool
  | [], [] => some true
  | a :: l, b :: m => (basicEq u a b).bind fun e => bif e then allEq u l m else some false
  | _, _ => none

def eqFields (rec : TypeId → V → V → Option Bool) : List Field → List V → List V → Option Bool
  | [], _, _ => some true
  | f :: fs, xs, ys =>
    bif f.name == "_" then none else
    (partOf P f.type xs f.offset).bind fun a => (partOf P f.type ys f.offset).bind fun b => (rec f.type a b).bind fun e =>
      bif e then eqFields rec fs xs ys else some false
def eqArray (e : TypeId) (len : Nat) (xs ys : List V) : Option Bool :=
  (P.underlying e).bind fun u => (szOf P e).bind fun n =>
    bif Nat.beq n 1 && Nat.beq xs.length len && Nat.beq ys.length len then allEq u xs ys else none
def freshRow : Option Blk → Bool
  | some (.cells _ x _) => x
  | _ => false
def eqPtr (s : St) (e : TypeId) (b o b' o' : Nat) : Option Bool :=
  (szOf P e).bind fun n => bif Nat.beq n 0 then none else
    bif Nat.beq b b' then some (Nat.beq o o') else bif freshRow (s.get b) && freshRow (s.get b') then some false else none
def eqIface (rec : TypeId → V → V → Option Bool) (tx : TypeId) (vx : V) (ty : TypeId) (vy : V) : Option Bool :=
  bif Nat.beq tx ty then (P.info? tx).bind fun i => bif i.comparable then rec tx vx vy else none else some false

def eqT (s : St) : Nat → TypeId → V → V → Option Bool
  | 0, _, _, _ => none
  | d + 1, t, x, y =>
    match P.underlying t, x, y with
    | some .bool, .bool a, .bool b => some (boolEq a b)
    | some (.int _), .int k a, .int k' b => bif kEq k k' then some (intEq a b) else none
    | some .string, .str a, .str b => some (strEq a b)
    | some (.pointer _), .nilp, .nilp => some true
    | some (.pointer _), .nilp, .ptr _ _ => some false
    | some (.pointer _), .ptr _ _, .nilp => some false
    | some (.pointer e), .ptr b o, .ptr b' o' => eqPtr P s e b o b' o'
    | some (.interface _), .nili, .iface _ _ => some false
    | some (.interface _), .iface _ _, .nili => some false
    | some (.interface _), .iface tx vx, .iface ty vy => eqIface P (eqT s d) tx vx ty vy
    | some (.struct fields), .agg xs, .agg ys => bif P.stoodInHeld t || P.eqGuardType P.depth t then none else eqFields P (eqT s d) fields.toList xs ys
    | some (.array len e), .agg xs, .agg ys => bif P.eqGuardType P.depth t then none else eqArray P e len xs ys
    | some (.slice _), .nils, .nils => some true
    | some (.slice _), .nils, .slice .. => some false
    | some (.slice _), .nils, .etail .. => some false
    | some (.slice _), .slice .., .nils => some false
    | some (.slice _), .etail .., .nils => some false
    | some (.map _ _), .nilm, .nilm => some true
    | some (.map _ _), .nilm, .map _ => some false
    | some (.map _ _), .map _, .nilm => some false
    | some (.func ..), .nilf, .nilf => some true
    | some (.func ..), .nilf, .func .. => some false
    | some (.func ..), .func .., .nilf => some false
    | _, _, _ => none

/-! Operators. -/
def shiftV (op : BinOp) (k : IntKind) (a b : Int) : Option V :=
  bif intLt b 0 then none else
  match op with
  | .shl => some (.int k (k.wrap (a * 2 ^ (min b.toNat k.bits))))
  | .shr => some (.int k (a.fdiv (2 ^ (min b.toNat k.bits))))
  | _ => none
def intOpV (op : BinOp) (k : IntKind) (a b : Int) : Option V :=
  match op with
  | .add => some (.int k (k.wrap (a + b)))
  | .sub => some (.int k (k.wrap (a - b)))
  | .mul => some (.int k (k.wrap (a * b)))
  | .quo => bif intEq b 0 then none else some (.int k (k.wrap (a.tdiv b)))
  | .rem => bif intEq b 0 then none else some (.int k (a.tmod b))
  | .and => some (.int k (k.wrap (BitVec.ofInt k.bits a &&& BitVec.ofInt k.bits b).toNat))
  | .or => some (.int k (k.wrap (BitVec.ofInt k.bits a ||| BitVec.ofInt k.bits b).toNat))
  | .xor => some (.int k (k.wrap (BitVec.ofInt k.bits a ^^^ BitVec.ofInt k.bits b).toNat))
  | .andNot => some (.int k (k.wrap (BitVec.ofInt k.bits a &&& ~~~ BitVec.ofInt k.bits b).toNat))
  | .eql => some (.bool (intEq a b))
  | .neq => some (.bool (!intEq a b))
  | .lss => some (.bool (intLt a b))
  | .leq => some (.bool (!intLt b a))
  | .gtr => some (.bool (intLt b a))
  | .geq => some (.bool (!intLt a b))
  | _ => none
def strOpV (op : BinOp) (a b : List UInt8) : Option V :=
  match op with
  | .add => bif Nat.blt (Nat.add a.length b.length) 4294967296 then some (.str (a ++ b)) else none
  | .eql => some (.bool (strEq a b))
  | .neq => some (.bool (!strEq a b))
  | .lss => some (.bool (strLt a b))
  | .leq => some (.bool (!strLt b a))
  | .gtr => some (.bool (strLt b a))
  | .geq => some (.bool (!strLt a b))
  | _ => none
def isShift : BinOp → Bool
  | .shl => true
  | .shr => true
  | _ => false
def isNilI : V → Bool
  | .nili => true
  | _ => false
def noMethods : Option TypeDesc → Bool
  | some (.interface ms) => ms.isEmpty
  | _ => false
def isIfaceD : Option TypeDesc → Bool
  | some (.interface _) => true
  | _ => false
/-- 'c': one of the two is a constant -/
def eqTop (s : St) (c : Bool) (t : TypeId) (x y : V) : Option Bool :=
  bif isNilI x && isNilI y then (bif isIfaceD (P.underlying t) && (c || noMethods (P.underlying t)) then some true else none) else eqT P s 40 t x y
def eqOpV (s : St) (c : Bool) (op : BinOp) (t : TypeId) (x y : V) : Option V :=
  match op with
  | .eql => (eqTop P s c t x y).map .bool
  | .neq => (eqTop P s c t x y).map fun b => .bool (!b)
  | _ => none
def binOpV (s : St) (c : Bool) (op : BinOp) (t : TypeId) (x y : V) : Option V :=
  match x with
  | .int k a => match y with
    | .int k' b => bif isShift op then shiftV op k a b else bif kEq k k' then intOpV op k a b else none
    | _ => none
  | .str a => match y with
    | .str b => strOpV op a b
    | _ => none
  | x => eqOpV P s c op t x y

def unOpV (op : UnOp) (x : V) : Option V :=
  match op, x with
  | .neg, .int k n => some (.int k (k.wrap (0 - n)))
  | .xor, .int k n => intOpV .xor k (if k.signed then -1 else k.max) n
  | .not, .bool b => some (.bool (!b))
  | _, _ => none

def byteOf : V → Option UInt8
  | .int .u8 n => some (UInt8.ofNat n.toNat)
  | _ => none
def bytesOfCells : List V → Option (List UInt8)
  | [] => some []
  | v :: l => (byteOf v).bind fun b => (bytesOfCells l).map fun m => b :: m
def cellsOfBytes : List UInt8 → List V
  | [] => []
  | b :: l => .int .u8 b.toNat :: cellsOfBytes l

/-- the cells of the first n elements of a slice or a string -/
def firstCellsV (s : St) (size n : Nat) : V → Option (List V)
  | .slice b o _ _ _ => s.cells b o (Nat.mul n size)
  | .etail .. => bif Nat.beq n 0 then some [] else none
  | .nils => some []
  | .str x => some (cellsOfBytes (x.take n))
  | _ => none
def lenOfV : V → Option Nat
  | .slice _ _ n _ _ => some n
  | .etail .. => some 0
  | .nils => some 0
  | .str x => some x.length
  | _ => none

def isU8 : Option TypeDesc → Bool
  | some (.int .u8) => true
  | _ => false
def oldRow : Blk → Option Blk
  | .cells l _ e => some (.cells l false e)
  | _ => none

def convertV (s : St) (src dst : TypeId) (x : V) : Option (V × St) :=
  match P.underlying src, P.underlying dst, x with
  | some _, some (.int k), .int _ n => some (.int k (k.wrap n), s)
  | some _, some .string, .str x => some (.str x, s)
  | some _, some (.slice e), .str x =>
    bif isU8 (P.underlying e) then (s.newRow (cellsOfBytes x) false 1).map fun r => (.slice r.1 0 x.length x.length true, r.2) else none
  | some (.slice _), some (.slice e), .slice b o l c sl =>
    bif isU8 (P.underlying e) && Nat.beq src dst then (s.get b).bind fun r => (oldRow r).map fun r => (.slice b o l c sl, s.set b r) else none
  | some (.slice e), some .string, x =>
    bif isU8 (P.underlying e) then (lenOfV x).bind fun n => (firstCellsV s 1 n x).bind fun cs => (bytesOfCells cs).map fun b => (.str b, s) else none
  | _, _, _ => none

/-! Building. -/
def fillParts (place : Nat → Option (Nat × Nat)) (cells : List V) : List (Nat × V) → Option (List V)
  | [] => some cells
  | (i, v) :: rest =>
    (place i).bind fun p => bif Nat.beq (cellsOf v).length p.2 then (putAt p.1 cells (cellsOf v)).bind fun cs => fillParts place cs rest else none
def placesV : List Field → Option (List (Nat × Nat))
  | [] => some []
  | f :: fs => (szOf P f.type).bind fun n => (placesV fs).map fun l => (f.offset, n) :: l
def buildV (t : TypeId) (parts : List (Nat × V)) : Option V :=
  (zeroOf P t).bind fun zero =>
  match P.underlying t with
  | some (.struct fields) => (placesV P fields.toList).bind fun pl => (fillParts (fun i => (pl.drop i).head?) zero parts).map .agg
  | some (.array _ e) => (szOf P e).bind fun n => (fillParts (fun i => some (Nat.mul i n, n)) zero parts).map .agg
  | _ => none
def elemD : Option TypeDesc → Option TypeId
  | some (.slice e) => some e
  | _ => none
def buildSliceV (s : St) (t : TypeId) (len : Nat) (parts : List (Nat × V)) : Option (V × St) :=
  (elemD (P.underlying t)).bind fun e => (szOf P e).bind fun n => (zeroOf P e).bind fun z =>
    bif Nat.ble (Nat.mul len n) 65536 && Nat.beq z.length n then
      (fillParts (fun i => some (Nat.mul i n, n)) (repeatL z len) parts).bind fun cs =>
        (s.newRow cs true n).map fun r => (.slice r.1 0 len len false, r.2)
    else none
def makeSliceV (s : St) (t : TypeId) (len cap : V) : Option (V × St) :=
  (elemD (P.underlying t)).bind fun e => (szOf P e).bind fun n => (zeroOf P e).bind fun z => (P.info? e).bind fun i =>
    (natOf len).bind fun l => (natOf cap).bind fun c =>
      bif Nat.ble l c && Nat.ble (Nat.mul c n) 65536 && Nat.ble (Nat.mul c i.bytes) 1000000 && Nat.beq z.length n && Nat.ble c 1000000 then
        (s.newRow (repeatL z c) true n).map fun r => (.slice r.1 0 l c false, r.2)
      else none

/-! Parts. -/
def natOr : Option V → Nat → Option Nat
  | none, n => some n
  | some v, _ => natOf v

def sliceStr (b : List UInt8) (lo hi mx : Option V) : Option V :=
  bif mx.isSome then none else
  (natOr lo 0).bind fun l => (natOr hi b.length).bind fun h =>
    bif Nat.ble l h && Nat.ble h b.length then some (.str ((b.drop l).take (Nat.sub h l))) else none
def sliceRow (b o len cap : Nat) (sl : Bool) (n : Nat) (lo hi mx : Option V) : Option V :=
  (natOr lo 0).bind fun l => (natOr hi len).bind fun h => (natOr mx cap).bind fun m =>
    bif Nat.ble l h && Nat.ble h m && Nat.ble m cap && (hi.isSome || mx.isNone) then
      bif mx.isSome then some (.slice b (bif Nat.beq m l then o else Nat.add o (Nat.mul l n)) (Nat.sub h l) (Nat.sub m l) false)
      else bif Nat.beq cap l then (bif sl then some (.etail b o (Nat.add o (Nat.mul l n))) else some (.slice b o 0 0 false))
      else some (.slice b (Nat.add o (Nat.mul l n)) (Nat.sub h l) (Nat.sub cap l) sl)
    else none
def sliceArr (b o len n : Nat) (lo hi mx : Option V) : Option V :=
  bif mx.isSome then none else
  (natOr lo 0).bind fun l => (natOr hi len).bind fun h =>
    bif Nat.ble l h && Nat.ble h len then
      some (.slice b (bif Nat.beq len l then o else Nat.add o (Nat.mul l n)) (Nat.sub h l) (Nat.sub len l) false)
    else none
def zeroCut (v : V) (lo hi mx : Option V) : Option V :=
  bif mx.isSome then none else
  (natOr lo 0).bind fun l => (natOr hi 0).bind fun h => bif Nat.beq l 0 && Nat.beq h 0 then some v else none

def sliceV (t : TypeId) (x : V) (lo hi mx : Option V) : Option V :=
  match P.underlying t, x with
  | some .string, .str b => sliceStr b lo hi mx
  | some (.slice e), .slice b o len cap sl => (szOf P e).bind fun n => sliceRow b o len cap sl n lo hi mx
  | some (.slice e), .etail b o o' => (szOf P e).bind fun _ => zeroCut (.etail b o o') lo hi mx
  | some (.slice e), .nils => (szOf P e).bind fun _ => zeroCut .nils lo hi mx
  | some (.array len e), .ptr b o => (szOf P e).bind fun n => sliceArr b o len n lo hi mx
  | _, _ => none

def fieldsD : Option TypeDesc → Option (List Field)
  | some (.struct fs) => some fs.toList
  | _ => none
def fieldOf (t : TypeId) (f : Nat) : Option Field := (fieldsD (P.underlying t)).bind fun fs => (fs.drop f).head?
def fieldAddrV (t : TypeId) (x : V) (f : Nat) : Option V :=
  (fieldOf P t f).bind fun fd => (szOf P fd.type).bind fun n => (asPtr x).bind fun a =>
    bif Nat.beq n 0 then none else some (.ptr a.1 (Nat.add a.2 fd.offset))
def indexAddrV (t : TypeId) (x ix : V) : Option V :=
  (natOf ix).bind fun i =>
  match P.underlying t, x with
  | some (.array len e), .ptr b o => (szOf P e).bind fun n => bif Nat.blt i len then some (.ptr b (Nat.add o (Nat.mul i n))) else none
  | some (.slice e), .slice b o len _ _ => (szOf P e).bind fun n => bif Nat.blt i len then some (.ptr b (Nat.add o (Nat.mul i n))) else none
  | _, _ => none
def indexV (t : TypeId) (x ix : V) : Option V :=
  (natOf ix).bind fun i =>
  match P.underlying t, x with
  | some (.array len e), .agg cs => (szOf P e).bind fun n => bif Nat.blt i len then partOf P e cs (Nat.mul i n) else none
  | some .string, .str s => ((s.drop i).head?).map fun b => .int .u8 b.toNat
  | _, _ => none
def fieldV (t : TypeId) (x : V) (f : Nat) : Option V :=
  (fieldOf P t f).bind fun fd => (asAggV x).bind fun cs => partOf P fd.type cs fd.offset

/-! Maps: keys are basic values, or arrays of basic values. -/
def keyEq (kt : TypeId) (a b : V) : Option Bool :=
  match P.underlying kt, a, b with
  | some .bool, .bool a, .bool b => some (boolEq a b)
  | some (.int _), .int k a, .int k' b => bif kEq k k' then some (intEq a b) else none
  | some .string, .str a, .str b => some (strEq a b)
  | some (.array len e), .agg xs, .agg ys => eqArray P e len xs ys
  | _, _, _ => none
/-- the one entry of a key: all entries must be comparable to it, and no two may be of it -/
def oneOf (q : Bool) (v : V) (r : Option V) : Option (Option V) :=
  bif q then (bif r.isSome then none else some (some v)) else some r
def findK (kt : TypeId) (k : V) : List (V × V) → Option (Option V)
  | [] => some none
  | e :: l => (keyEq P kt k e.1).bind fun q => (findK kt k l).bind fun r => oneOf q e.2 r
def isKey (kt : TypeId) (k : V) (e : V × V) : Bool := (keyEq P kt k e.1).getD false
def eraseK (kt : TypeId) (k : V) (es : List (V × V)) : List (V × V) := es.filter fun e => !isKey P kt k e
def setK (kt : TypeId) (k v : V) (es : List (V × V)) : List (V × V) := es.map fun e => bif isKey P kt k e then (k, v) else e
def updK (kt : TypeId) (k v : V) (es : List (V × V)) (old : Option V) : List (V × V) := bif old.isSome then setK P kt k v es else es ++ [(k, v)]
def goodKey (kt : TypeId) (k : V) : Bool := (keyEq P kt k k).isSome

def asMap : Blk → Option (List (V × V))
  | .map es _ => some es
  | _ => none
def mapD : Option TypeDesc → Option (TypeId × TypeId)
  | some (.map k e) => some (k, e)
  | _ => none
def bornOf : Blk → Option (List Nat × Nat)
  | .map _ bo => bo
  | _ => none
def bornNew : Option (List Nat × Nat) → Option (List Nat × Nat)
  | some q => some (q.1 ++ [q.2], Nat.succ q.2)
  | none => none
def bornUpd (bo : Option (List Nat × Nat)) (old : Option V) : Option (List Nat × Nat) := bif old.isSome then bo else bornNew bo
def bornLone : Option (List Nat × Nat) → Option (List Nat × Nat)
  | some q => some ([], q.2)
  | none => none
def bornDel (es : List (V × V)) (bo : Option (List Nat × Nat)) (old : Option V) : Option (List Nat × Nat) := bif old.isSome then (bif Nat.beq es.length 1 then bornLone bo else none) else bo
/-- the entries of a map -/
def St.entries (s : St) : V → Option (List (V × V))
  | .nilm => some []
  | .map r => (s.get r).bind asMap
  | _ => none
def okV (ok : Bool) (v : V) (b : Bool) : V := bif ok then .tup [v, .bool b] else v

def lookupV (s : St) (t : TypeId) (x k : V) (ok : Bool) : Option V :=
  (mapD (P.underlying t)).bind fun m => (s.entries x).bind fun es =>
    bif goodKey P m.1 k then
      (findK P m.1 k es).bind fun r => match r with
        | some v => some (okV ok v true)
        | none => (zeroV P m.2).map fun z => okV ok z false
    else none
def asMapR : V → Option Nat
  | .map r => some r
  | _ => none
def mapUpdateV (s : St) (t : TypeId) (m k v : V) : Option St :=
  (mapD (P.underlying t)).bind fun kt => (asMapR m).bind fun r => (s.get r).bind fun b => (asMap b).bind fun es =>
    bif goodKey P kt.1 k then (findK P kt.1 k es).map fun old => s.set r (.map (updK P kt.1 k v es old) (bornUpd (bornOf b) old)) else none
def deleteV (s : St) (t : TypeId) (m k : V) : Option St :=
  (mapD (P.underlying t)).bind fun kt => bif goodKey P kt.1 k then
    match m with
    | .nilm => some s
    | .map r => (s.get r).bind fun b => (asMap b).bind fun es => (findK P kt.1 k es).map fun old => s.set r (.map (eraseK P kt.1 k es) (bornDel es (bornOf b) old))
    | _ => none
    else none

def rangeMap (s : St) (m : Nat) : Blk → Option (V × St)
  | .map _ (some q) => (s.new (.iter (some m) (some (q.2, [], q.2)))).map fun r => (.ptr r.1 0, r.2)
  | .map es none => bif es.isEmpty then (s.new (.iter (some m) none)).map fun r => (.ptr r.1 0, r.2) else none
  | _ => none
def rangeV (s : St) (t : TypeId) (x : V) : Option (V × St) :=
  match P.underlying t, x with
  | some .string, .str b => (s.new (.striter b 0)).map fun r => (.ptr r.1 0, r.2)
  | some (.map _ _), .nilm => (s.new (.iter none none)).map fun r => (.ptr r.1 0, r.2)
  | some (.map _ _), .map m => (s.get m).bind (rangeMap s m)
  | _, _ => none
def memN (b : Nat) : List Nat → Bool
  | [] => false
  | c :: l => bif Nat.beq b c then true else memN b l
/-- a map of one entry: has it been seen? -/
def nextLone (s : St) (r m since : Nat) (seen : List Nat) (last clk : Nat) (e : V × V) (b : Nat) : Option (V × St) :=
  bif memN b seen then (bif Nat.blt b last then some (.tup [.bool false], s) else none)
  else bif Nat.blt b since && (seen.isEmpty || Nat.blt b last) then some (.tup [.bool true, e.1, e.2], s.set r (.iter (some m) (some (since, seen ++ [b], clk)))) else none
def nextKnown (s : St) (r m since : Nat) (seen : List Nat) (last : Nat) : Blk → Option (V × St)
  | .map [] _ => some (.tup [.bool false], s)
  | .map [e] (some ([b], clk)) => nextLone s r m since seen last clk e b
  | _ => none
def nextBlind (s : St) : Blk → Option (V × St)
  | .map [] _ => some (.tup [.bool false], s)
  | _ => none
def nextIter (s : St) (r : Nat) (isStr : Bool) : Blk → Option (V × St)
  | .iter none _ => bif isStr then none else some (.tup [.bool false], s)
  | .iter (some m) none => bif isStr then none else (s.get m).bind (nextBlind s)
  | .iter (some m) (some q) => bif isStr then none else (s.get m).bind (nextKnown s r m q.1 q.2.1 q.2.2)
  | .striter [] _ => bif isStr then some (.tup [.bool false], s) else none
  | .striter (c :: l) pos => bif isStr && Nat.blt c.toNat 128 then some (.tup [.bool true, .int .i64 (Int.ofNat pos), .int .i32 (Int.ofNat c.toNat)], s.set r (.striter l (Nat.succ pos))) else none
  | _ => none
def nextV (s : St) (it : V) (isStr : Bool) : Option (V × St) :=
  (asPtr it).bind fun a => bif Nat.beq a.2 0 then (s.get a.1).bind (nextIter s a.1 isStr) else none

/-- the entry that the last step came to -/
def lastN : List Nat → Option Nat
  | [] => none
  | b :: l => match l with
    | [] => some b
    | _ :: _ => lastN l
def entryKnown (seen : List Nat) (last : Nat) : Blk → Option V
  | .map [e] (some ([b], clk)) => (lastN seen).bind fun c => bif Nat.beq c b && Nat.beq clk last then some (.tup [e.1, e.2]) else none
  | _ => none
def entryIter (s : St) : Blk → Option V
  | .iter (some m) (some q) => (s.get m).bind (entryKnown q.2.1 q.2.2)
  | _ => none
def entryV (s : St) (it : V) : Option V := (asPtr it).bind fun a => bif Nat.beq a.2 0 then (s.get a.1).bind (entryIter s) else none

/-! Interfaces. -/
def failsV (ok : Bool) (asserted : TypeId) : Option V := bif ok then (zeroV P asserted).map fun z => .tup [z, .bool false] else none
def typeAssertV (x : V) (asserted : TypeId) (ok : Bool) : Option V :=
  match P.underlying asserted, x with
  | some (.interface _), .nili => failsV P ok asserted
  | some (.interface want), .iface t v => (P.info? t).bind fun i =>
      bif (Instr.missingMethod want i.methods).isNone then some (okV ok (.iface t v) true) else failsV P ok asserted
  | some _, .nili => failsV P ok asserted
  | some _, .iface t v => bif Nat.beq t asserted then some (okV ok v true) else failsV P ok asserted
  | _, _ => none

inductive Pl where
  | val (v : V)
  | var (b o : Nat)
def Pl.get (s : St) (t : TypeId) : Pl → Option V
  | .val v => some v
  | .var b o => ldVar P s t b o
def stepPl (s : St) (st : FieldStep) (t : TypeId) (x : Pl) (f : Field) : Option Pl :=
  bif st.deref then (Pl.get P s t x).bind fun v => (asPtr v).bind fun a => (szOf P f.type).bind fun n => bif Nat.beq n 0 then none else some (.var a.1 (Nat.add a.2 f.offset))
  else match x with
    | .var b o => (szOf P f.type).bind fun n => bif Nat.beq n 0 then none else some (.var b (Nat.add o f.offset))
    | .val v => (asAggV v).bind fun cs => (partOf P f.type cs f.offset).map .val
def followV (s : St) : List FieldStep → TypeId → Pl → Option (TypeId × Pl)
  | [], t, x => some (t, x)
  | st :: rest, t, x => (fieldOf P st.struct st.index).bind fun f => (stepPl P s st t x f).bind fun y => followV s rest f.type y
def ptrElem : TypeDesc → Option TypeId
  | .pointer e => some e
  | _ => none
def recvAt (s : St) (xt : TypeId) (x : Pl) (ptr : Bool) : Option V :=
  (P.underlying xt).bind fun d => match ptrElem d with
    | some e => bif ptr then Pl.get P s xt x else (Pl.get P s xt x).bind fun v => (asPtr v).bind fun a => ldVar P s e a.1 a.2
    | none => bif ptr then (match x with | .var b o => some (.ptr b o) | .val _ => none) else Pl.get P s xt x
def asIface : V → Option (TypeId × V)
  | .iface t v => some (t, v)
  | _ => none
def methodV (s : St) : Nat → TypeId → V → String → Option (FuncId × V)
  | 0, _, _, _ => none
  | fuel + 1, t, v, name =>
    (P.info? t).bind fun i => (i.methods.toList.find? (·.name == name)).bind fun m => (followV P s m.path.toList t (.val v)).bind fun y =>
      match m.func with
      | some g => (recvAt P s y.1 y.2 g.2).map fun r => (g.1, r)
      | none => (Pl.get P s y.1 y.2).bind fun w => (asIface w).bind fun u => methodV s fuel u.1 u.2 name
/-- a method of its own, of a pointer receiver -/
def ownPtrMethod (t : TypeId) (name : String) : Bool :=
  match (P.info? t).bind fun i => i.methods.toList.find? (·.name == name) with
  | some m => match m.path.toList, m.func with
    | [], some (_, true) => true
    | _, _ => false
  | none => false
def makeIfaceV (t : TypeId) (x : V) : Option V :=
  match P.underlying t with
  | some (.interface _) => none
  | some _ => some (.iface t x)
  | none => none

/-! Builtins. -/
def typeAt (ts : Array TypeId) (i : Nat) : Option TypeDesc := ((ts.toList.drop i).head?).bind P.underlying
def isInt : Option TypeDesc → Bool
  | some (.int _) => true
  | _ => false
/-- what is appended: how many elements, and their cells -/
def newCells (s : St) (e : TypeId) (size : Nat) (zeros : Bool) (y : V) : Option (Nat × List V) :=
  bif zeros then (natOf y).bind fun n => (zeroOf P e).bind fun z => bif Nat.ble n 65536 && Nat.beq z.length size then some (n, repeatL z n) else none
  else (lenOfV y).bind fun n => (firstCellsV s size n y).map fun cs => (n, cs)
def small (i : TypeInfo) (need : Nat) : Bool := Nat.ble need 1000000 && Nat.ble i.bytes 1000000
def growRow (s : St) (b o len cap : Nat) (sl : Bool) (size need : Nat) (new : List V) : Blk → Option (V × St)
  | .cells l _ esz =>
    bif !sl || (Nat.beq (Nat.add o (Nat.mul cap size)) l.length && Nat.beq esz size) then
      (takeN (Nat.mul len size) (l.drop o)).bind fun old =>
        (St.newRow (bif sl then s.set b .dead else s) (old ++ new) false size).map fun r => (.slice r.1 0 need need true, r.2)
    else none
  | _ => none
def growTail (s : St) (b o' size n : Nat) (new : List V) : Blk → Option (V × St)
  | .cells l _ esz => bif Nat.beq o' l.length && Nat.beq esz size then
      (St.newRow (s.set b .dead) new false size).map fun r => (.slice r.1 0 n n true, r.2) else none
  | _ => none
def appendTo (s : St) (size n : Nat) (new : List V) : V → Option (V × St)
  | .nils => bif Nat.beq n 0 then some (.nils, s) else (s.newRow new false size).map fun r => (.slice r.1 0 n n true, r.2)
  | .slice b o len cap sl =>
    bif Nat.ble (Nat.add len n) cap then (s.write b (Nat.add o (Nat.mul len size)) new).map fun s => (.slice b o (Nat.add len n) cap sl, s)
    else (s.get b).bind (growRow s b o len cap sl size (Nat.add len n) new)
  | .etail b o o' => bif Nat.beq n 0 then some (.etail b o o', s) else (s.get b).bind (growTail s b o' size n new)
  | _ => none
def appendV (s : St) (ts : Array TypeId) (x y : V) : Option (V × St) :=
  (elemD (typeAt P ts 0)).bind fun e => (szOf P e).bind fun size => (P.info? e).bind fun i => (zeroOf P e).bind fun z =>
    (newCells P s e size (isInt (typeAt P ts 1)) y).bind fun r => (lenOfV x).bind fun len =>
      bif small i (Nat.add len r.1) && Nat.beq z.length size && (typeAt P ts 1).isSome && Nat.beq r.2.length (Nat.mul r.1 size) then appendTo s size r.1 r.2 x else none

def copyTo (s : St) (m : Nat) (cs : List V) : V → Option (V × St)
  | .slice b o _ _ _ => (s.write b o cs).map fun s => (.int .i64 (Int.ofNat m), s)
  | .nils => some (.int .i64 (Int.ofNat m), s)
  | .etail .. => some (.int .i64 (Int.ofNat m), s)
  | _ => none
def copyV (s : St) (ts : Array TypeId) (x y : V) : Option (V × St) :=
  (elemD (typeAt P ts 0)).bind fun e => (szOf P e).bind fun size => (lenOfV x).bind fun d => (lenOfV y).bind fun n =>
    (firstCellsV s size (Nat.min n d) y).bind fun cs => copyTo s (Nat.min n d) cs x
def clearV (s : St) (ts : Array TypeId) (x : V) : Option (V × St) :=
  (elemD (typeAt P ts 0)).bind fun e => (szOf P e).bind fun size => (zeroOf P e).bind fun z => bif Nat.beq z.length size then
    match x with
    | .slice b o n _ _ => (s.write b o (repeatL z n)).map fun s => (.tup [], s)
    | .nils => some (.tup [], s)
    | .etail .. => some (.tup [], s)
    | _ => none
    else none
def lenV (s : St) (ts : Array TypeId) (x : V) : Option V :=
  match typeAt P ts 0, x with
  | some .string, .str b => some (.int .i64 (Int.ofNat b.length))
  | some (.array n _), _ => some (.int .i64 (Int.ofNat n))
  | some (.slice _), .slice _ _ n _ _ => some (.int .i64 (Int.ofNat n))
  | some (.slice _), .etail .. => some (.int .i64 (Int.ofNat 0))
  | some (.slice _), .nils => some (.int .i64 (Int.ofNat 0))
  | some (.map _ _), .nilm => some (.int .i64 (Int.ofNat 0))
  | some (.map _ _), .map r => (s.entries (.map r)).map fun es => .int .i64 (Int.ofNat es.length)
  | _, _ => none
def capV (ts : Array TypeId) (x : V) : Option V :=
  match typeAt P ts 0, x with
  | some (.slice _), .slice _ _ _ c false => some (.int .i64 (Int.ofNat c))
  | some (.slice _), .nils => some (.int .i64 (Int.ofNat 0))
  | _, _ => none
def min2 : V → V → Option V
  | .int k a, .int _ b => some (.int k (bif intLt b a then b else a))
  | _, _ => none
def max2 : V → V → Option V
  | .int k a, .int _ b => some (.int k (bif intLt a b then b else a))
  | .str a, .str b => some (.str (bif strLt a b then b else a))
  | _, _ => none
def foldV (f : V → V → Option V) : V → List V → Option V
  | x, [] => some x
  | x, y :: l => (f x y).bind fun z => foldV f z l
def minV : List V → Option V
  | [] => none
  | x :: l => foldV min2 x l
def maxV : List V → Option V
  | [] => none
  | x :: l => foldV max2 x l

/-! One operation. -/
inductive Out where
  | val (v : V) (s : St)
  | dfr (d : Dfr)
  | rcv
  | call (f : FuncId) (args : List V)
  | yield (l : Nat) (args : List V)
  | pan (v : V)

def pureO (s : St) (r : Option V) : Option Out := r.map fun v => .val v s
def memO (r : Option (V × St)) : Option Out := r.map fun r => .val r.1 r.2
def unitO (r : Option St) : Option Out := r.map fun s => .val undef s

def invokeM (s : St) (name : String) : List V → Option Out
  | .iface t v :: rest => (methodV P s 4 t v name).map fun r => .call r.1 (r.2 :: rest)
  | _ => none
def invokeFn (s : St) (f : Fn) (captured args : List V) : Option Out :=
  match f with
  | .func f => some (.call f (args ++ captured))
  | .method name => invokeM P s name args
  | .yield l => some (.yield l args)
  | _ => none
def builtin2 (s : St) (b : Builtin) (ts : Array TypeId) (x y : V) : Option Out :=
  match b with
  | .append => memO (appendV P s ts x y)
  | .copy => memO (copyV P s ts x y)
  | .delete => ((ts.toList).head?).bind fun t => (deleteV P s t x y).map fun s => .val (.tup []) s
  | .min => pureO s (minV [x, y])
  | .max => pureO s (maxV [x, y])
  | _ => none
def builtin1 (s : St) (b : Builtin) (ts : Array TypeId) (x : V) : Option Out :=
  match b with
  | .clear => memO (clearV P s ts x)
  | .len => pureO s (lenV P s ts x)
  | .cap => pureO s (capV P ts x)
  | _ => none
def builtinN (s : St) (b : Builtin) (l : List V) : Option Out :=
  match b with
  | .min => pureO s (minV l)
  | .max => pureO s (maxV l)
  | .recover => some .rcv
  | _ => none
def builtinV (s : St) (b : Builtin) (ts : Array TypeId) : List V → Option Out
  | [x] => builtin1 P s b ts x
  | [x, y] => builtin2 P s b ts x y
  | l => builtinN s b l

def nilCheckV : V → Option V
  | .ptr b o => some (.ptr b o)
  | .slice b o l c sl => some (.slice b o l c sl)
  | .iface t w => some (.iface t w)
  | .func (.func f) x y => some (.func (.func f) x y)
  | .func (.yield l) x y => some (.func (.yield l) x y)
  | .func (.method name) x y => match x with
    | .iface t _ :: _ => bif ownPtrMethod P t name then some (.func (.method name) x y) else none
    | _ => none
  | _ => none
def pickV (a : Act) (x y : Operand) (c : V) : Option V := (asBoolV c).bind fun b => bif b then a.eval x else a.eval y
def goodFn : Fn → Bool
  | .func _ => true
  | .method _ => true
  | _ => false
def ptrOf (r : Nat × St) : V × St := (.ptr r.1 0, r.2)
def mapOfR (r : Nat × St) : V × St := (.map r.1, r.2)
def asFunc : V → Option (Fn × List V × List V)
  | .func f x y => some (f, x, y)
  | _ => none
def callV (a : Act) (s : St) (c : Call) (args : List V) : Option Out :=
  match c.callee with
  | .builtin b => builtinV P s b c.argTypes args
  | .invoke r name => (a.eval r).bind fun r => invokeM P s name (r :: args)
  | .value f => (a.eval f).bind fun f => (asFunc f).bind fun q => invokeFn P s q.1 q.2.2 (q.2.1 ++ args)
def deferV (a : Act) (c : Call) (args : List V) : Option Out :=
  match c.callee with
  | .value f => (a.eval f).bind fun f => (asFunc f).bind fun q => some (.dfr (.fn q.1 q.2.2 (q.2.1 ++ args)))
  | _ => none
def isConstO : Operand → Bool
  | .const _ => true
  | _ => false
def panicV : V → Option Out
  | .iface t w => some (.pan (.iface t w))
  | _ => none

def execA (a : Act) (s : St) (o : Op) : Option Out :=
  match o with
  | .move x => pureO s (a.eval x)
  | .assign x => pureO s (a.eval x)
  | .pick c x y => pureO s ((a.eval c).bind (pickV a x y))
  | .alloc t => memO ((zeroOf P t).bind fun z => (s.newRow z true 0).map ptrOf)
  | .box _ x => memO ((a.eval x).bind fun v => (s.newRow (cellsOf v) true 0).map ptrOf)
  | .build t parts => pureO s ((evalP a parts.toList).bind (buildV P t))
  | .buildSlice t len parts => memO ((evalP a parts.toList).bind (buildSliceV P s t len))
  | .load t x => pureO s ((a.eval x).bind fun v => (asPtr v).bind fun p => ldVar P s t p.1 p.2)
  | .store t x y => unitO ((a.eval x).bind fun v => (asPtr v).bind fun p => (a.eval y).bind fun w => stVar P s t p.1 p.2 w)
  | .nilCheck x => pureO s ((a.eval x).bind (nilCheckV P))
  | .binOp op t x y _ => pureO s ((a.eval x).bind fun v => (a.eval y).bind fun w => binOpV P s (isConstO x || isConstO y) op t v w)
  | .unOp op _ x => pureO s ((a.eval x).bind (unOpV op))
  | .convert src dst x => memO ((a.eval x).bind (convertV P s src dst))
  | .makeInterface t x => pureO s ((a.eval x).bind (makeIfaceV P t))
  | .makeFunc fn first cap => pureO s ((evals a first.toList).bind fun f => (evals a cap.toList).bind fun c => bif goodFn fn then some (.func fn f c) else none)
  | .makeMap _ r => bif r.isNone then memO ((s.new (.map [] (some ([], 0)))).map mapOfR) else none
  | .makeSlice t l c => memO ((a.eval l).bind fun l => (a.eval c).bind fun c => makeSliceV P s t l c)
  | .slice t x lo hi mx => pureO s ((a.eval x).bind fun x => (evalO a lo).bind fun lo => (evalO a hi).bind fun hi => (evalO a mx).bind fun mx => sliceV P t x lo hi mx)
  | .fieldAddr t x f => pureO s ((a.eval x).bind fun x => fieldAddrV P t x f)
  | .field t x f => pureO s ((a.eval x).bind fun x => fieldV P t x f)
  | .indexAddr t x i => pureO s ((a.eval x).bind fun x => (a.eval i).bind fun i => indexAddrV P t x i)
  | .index t x i => pureO s ((a.eval x).bind fun x => (a.eval i).bind fun i => indexV P t x i)
  | .lookup t x k ok => pureO s ((a.eval x).bind fun x => (a.eval k).bind fun k => lookupV P s t x k ok)
  | .mapUpdate t m k x => unitO ((a.eval m).bind fun m => (a.eval k).bind fun k => (a.eval x).bind fun x => mapUpdateV P s t m k x)
  | .insert t m k x => unitO ((a.eval m).bind fun m => (a.eval k).bind fun k => (a.eval x).bind fun x => mapUpdateV P s t m k x)
  | .range t x => memO ((a.eval x).bind (rangeV P s t))
  | .next it isStr => memO ((a.eval it).bind fun it => nextV s it isStr)
  | .entry it => pureO s ((a.eval it).bind (entryV s))
  | .typeAssert x _ asserted ok => pureO s ((a.eval x).bind fun x => typeAssertV P x asserted ok)
  | .extract x i => pureO s ((a.eval x).bind fun x => (asTup x).bind fun l => (l.drop i).head?)
  | .call c => (evals a c.args.toList).bind (callV P a s c)
  | .defer c => (evals a c.args.toList).bind (deferV a c)
  | .panic x => (a.eval x).bind panicV
  | _ => none

/-! Code. -/
inductive Ex where
  | norm | exit (id : Nat) | ret | pan (chain : List PE)
inductive End where
  | ret (v : V) | pan (chain : List PE)

abbrev Res := Option (Ex × Act × St)

structure R where
  call : FuncId → List V → Option (List PE) → St → Option (End × Option (List PE) × St)
  round : Nat → List V → St → Option (End × St)
  leave : FuncId → T V TD → List Dfr → Option (List PE) → St → Option (End × St)

def yieldedA (ops : List Oper) (a : Act) (j : Nat) : Option Bool :=
  ((ops.drop j).head?).bind fun o => o.dst.bind fun d => asBoolV (a.get d)
def wantedA (ops : List Oper) (a : Act) (g : Option (Nat × Bool)) : Bool :=
  match g with
  | none => true
  | some (j, w) => match yieldedA ops a j with
    | some b => boolEq b w
    | none => false

def endO (a : Act) (dst : Option Tmp) : Option (End × St) → Res
  | some (.ret v, s) => some (.norm, a.put dst v, s)
  | some (.pan ch, s) => some (.pan ch, a, s)
  | none => none
def dropRc : Option (End × Option (List PE) × St) → Option (End × St)
  | some (e, _, s) => some (e, s)
  | none => none
def recoverA (a : Act) (dst : Option Tmp) : Option (List PE) → Act
  | some ({ v, rcv := false } :: older) => Act.put ⟨a.tmps, a.size, a.defers, some ({ v, rcv := true } :: older)⟩ dst v
  | _ => a.put dst .nili
def deferA (a : Act) (d : Dfr) : Act := ⟨a.tmps, a.size, d :: a.defers, a.rc⟩

def doOut (r : R) (ro : Option Nat) (a : Act) (dst : Option Tmp) (s : St) : Out → Res
  | .val v s => some (.norm, a.put dst v, s)
  | .dfr d => bif ro.isSome then none else some (.norm, (deferA a d).put dst undef, s)
  | .rcv => bif ro.isSome then none else some (.norm, recoverA a dst a.rc, s)
  | .call f args => endO a dst (dropRc (r.call f args none s))
  | .yield l args => endO a dst (r.round l args s)
  | .pan v => some (.pan [⟨v, false⟩], a, s)

def andThen (x : Res) (k : Act → St → Res) : Res :=
  match x with
  | some (.norm, a, s) => k a s
  | x => x

def opF (r : R) (ro : Option Nat) (all : List Oper) (o : Oper) (a : Act) (s : St) : Res :=
  bif wantedA all a o.guard then (execA P a s o.op).bind (doOut r ro a o.dst s) else some (.norm, a.put o.dst undef, s)
def opsF (r : R) (ro : Option Nat) (all : List Oper) : List Oper → Act → St → Res
  | [], a, s => some (.norm, a, s)
  | o :: l, a, s => andThen (opF P r ro all o a s) fun a s => opsF r ro all l a s

/-! Regions that draw their order: run in their rows' order; each load is looked at again wherever it may stand. -/
def isSliceD : Option TypeDesc → Bool
  | some (.slice _) => true
  | _ => false
/-- an operation that may write to memory that is there, or run code -/
def isChain0 : Op → Bool
  | .move _ | .assign _ | .pick .. | .alloc _ | .box .. | .build .. | .buildSlice .. | .load .. | .nilCheck _ | .unOp .. | .makeInterface .. | .makeFunc .. | .makeMap ..
  | .makeSlice .. | .slice .. | .fieldAddr .. | .field .. | .indexAddr .. | .index .. | .extract .. | .typeAssert .. | .binOp .. => false
  | .call { callee := .builtin .len, .. } => false
  | _ => true
def isChain : Op → Bool
  | .convert src dst _ => isSliceD (P.underlying src) && isSliceD (P.underlying dst)
  | o => isChain0 o

mutual
def V.beq : V → V → Bool
  | .bool a, .bool b => boolEq a b
  | .int k a, .int k' b => kEq k k' && intEq a b
  | .str a, .str b => strEq a b
  | .ptr b o, .ptr b' o' => Nat.beq b b' && Nat.beq o o'
  | .nilp, .nilp => true
  | .slice b o l c f, .slice b' o' l' c' f' => Nat.beq b b' && Nat.beq o o' && Nat.beq l l' && Nat.beq c c' && boolEq f f'
  | .etail b o p, .etail b' o' p' => Nat.beq b b' && Nat.beq o o' && Nat.beq p p'
  | .nils, .nils => true
  | .map a, .map b => Nat.beq a b
  | .nilm, .nilm => true
  | .func (.func f) x y, .func (.func f') x' y' => Nat.beq f f' && V.beqL x x' && V.beqL y y'
  | .nilf, .nilf => true
  | .iface t v, .iface t' v' => Nat.beq t t' && V.beq v v'
  | .nili, .nili => true
  | .agg l, .agg l' => V.beqL l l'
  | .tup l, .tup l' => V.beqL l l'
  | _, _ => false
def V.beqL : List V → List V → Bool
  | [], [] => true
  | a :: l, b :: m => V.beq a b && V.beqL l m
  | _, _ => false
end

/-- what comes ahead of each row: bit i of number j -/
def bfOne (acc : List Nat) : List Edge → Nat
  | [] => 0
  | e :: l => bif Region.binds .any e then Nat.lor (Nat.lor (2 ^ e.on) ((acc.drop e.on).headD 0)) (bfOne acc l) else bfOne acc l
def bfGo (acc : List Nat) : List Oper → List Nat
  | [] => acc
  | o :: l => bfGo (acc ++ [bfOne acc o.after.toList]) l
def bfL (ops : List Oper) : List Nat := bfGo [] ops
def bit (bf : List Nat) (j i : Nat) : Bool := Nat.testBit ((bf.drop j).headD 0) i
/-- a member of the chain: its place, and the state ahead of it -/
structure Snap where
  at_ : Nat
  st : St
/-- an operation that reads: its place, itself, the slots ahead of it, what it gave -/
structure Ld where
  at_ : Nat
  op : Op
  act : Act
  v : V

def reads : Op → Bool
  | .load .. => true
  | .binOp .. => true
  | .call _ => true
  | _ => false
def readsO : Op → Bool
  | .convert src _ _ => isSliceD (P.underlying src)
  | o => reads o
def isVal : Out → Option V
  | .val v _ => some v
  | _ => none

def addLd (i : Nat) (o : Oper) (a : Act) (out : Out) (ld : List Ld) : List Ld :=
  bif readsO P o.op && !isChain P o.op then (match isVal out with | some v => ⟨i, o.op, a, v⟩ :: ld | none => ld) else ld

def drawF (r : R) (ro : Option Nat) (all : List Oper) : List Oper → Nat → List Snap → List Ld → Act → St → Option (Act × St × List Snap × List Ld)
  | [], _, sn, ld, a, s => some (a, s, sn, ld)
  | o :: l, i, sn, ld, a, s =>
    bif wantedA all a o.guard then
      (execA P a s o.op).bind fun out => (doOut r ro a o.dst s out).bind fun res =>
        match res with
        | (.norm, a', s') => drawF r ro all l (Nat.succ i) (bif isChain P o.op then ⟨i, s⟩ :: sn else sn) (addLd P i o a out ld) a' s'
        | _ => none
    else drawF r ro all l (Nat.succ i) sn ld (a.put o.dst undef) s

/-- snaps, the last one first: each must come behind the one ahead of it -/
def chainOk (bf : List Nat) : List Snap → Bool
  | s :: l => match l with
    | t :: _ => bit bf s.at_ t.at_ && chainOk bf l
    | [] => true
  | [] => true

def seesIt (x : Ld) (s : St) : Bool :=
  match (execA P x.act s x.op).bind isVal with
  | some v => V.beq v x.v
  | none => false
/-- the phases of a read: ahead of each member of the chain (the first one first), and behind all -/
def ldOk (bf : List Nat) (x : Ld) (s : St) : List Snap → Bool
  | [] => seesIt P x s
  | c :: l =>
    (bif bit bf x.at_ c.at_ then true else seesIt P x c.st) &&
    (bif bit bf c.at_ x.at_ then true else ldOk bf x s l)
/-- the edges go down -/
def downE (i : Nat) : List Edge → Bool
  | [] => true
  | e :: l => (!Region.binds .any e || Nat.blt e.on i) && downE i l
def downL (i : Nat) : List Oper → Bool
  | [] => true
  | o :: l => downE i o.after.toList && downL (Nat.succ i) l
/-- the slots that an operation names -/
def tmpsOf : List Operand → List Tmp
  | [] => []
  | .tmp t :: l => t :: tmpsOf l
  | _ :: l => tmpsOf l
def guardTmp (all : List Oper) : Option (Nat × Bool) → List Tmp
  | none => []
  | some (g, _) => match ((all.drop g).head?).bind (·.dst) with
    | some t => [t]
    | none => []
def looks (all : List Oper) (o : Oper) : List Tmp := guardTmp all o.guard ++ tmpsOf o.op.operands.toList
/-- slots as the bits of a number -/
def maskT : List Tmp → Nat
  | [] => 0
  | t :: l => Nat.lor (2 ^ t) (maskT l)
def dMask (o : Oper) : Nat := maskT o.dst.toList
def lMask (all : List Oper) (o : Oper) : Nat := maskT (looks all o)
def clash (all : List Oper) (x y : Oper) : Bool := !Nat.beq (Nat.lor (Nat.land (dMask x) (Nat.lor (dMask y) (lMask all y))) (Nat.land (dMask y) (lMask all x))) 0
def tmpRow (all : List Oper) (bf : List Nat) (j : Nat) (y : Oper) : Nat → List Oper → Bool
  | _, [] => true
  | i, x :: l => bif Nat.blt i j then (!clash all x y || bit bf j i) && tmpRow all bf j y (Nat.succ i) l else true
def tmpRows (all : List Oper) (bf : List Nat) : Nat → List Oper → Bool
  | _, [] => true
  | j, y :: l => tmpRow all bf j y 0 all && tmpRows all bf (Nat.succ j) l
def dstLt (n : Nat) : List Oper → Bool
  | [] => true
  | o :: l => (match o.dst with | some d => Nat.blt d n | none => true) && dstLt n l
def drawOk (all : List Oper) (bf : List Nat) (n : Nat) : Bool := downL 0 all && tmpRows all bf 0 all && dstLt n all
def drawn (all : List Oper) (n : Nat) (bf : List Nat) (r : Option (Act × St × List Snap × List Ld)) : Res :=
  r.bind fun q => bif drawOk all bf n && chainOk bf q.2.2.1 && q.2.2.2.all (fun x => ldOk P bf x q.2.1 q.2.2.1.reverse) then some (.norm, q.1, q.2.1) else none

/-! A drawn region that panics: at a row that all rows ahead of it come ahead of, and all rows behind it come behind of. -/
def panAt (r : R) (ro : Option Nat) (all : List Oper) : List Oper → Nat → Act → St → Option Nat
  | [], _, _, _ => none
  | o :: l, i, a, s => match opF P r ro all o a s with
    | some (.norm, a', s') => panAt r ro all l (Nat.succ i) a' s'
    | some (.pan _, _, _) => some i
    | _ => none
def allBits (bf : List Nat) (i : Nat) : Nat → Bool
  | 0 => true
  | j + 1 => bit bf i j && allBits bf i j
/-- every row from j on comes behind row i -/
def allBehind (bf : List Nat) (i : Nat) : Nat → List Oper → Bool
  | _, [] => true
  | j, _ :: l => bit bf j i && allBehind bf i (Nat.succ j) l
def guardLt (i : Nat) : Option (Nat × Bool) → Bool
  | some (g, _) => Nat.blt g i
  | none => true
def guardsLt : Nat → List Oper → Bool
  | _, [] => true
  | i, o :: l => guardLt i o.guard && guardsLt (Nat.succ i) l
def panOk (all : List Oper) (bf : List Nat) (i : Nat) : Bool := downL 0 all && allBits bf i i && allBehind bf i (Nat.succ i) (all.drop (Nat.succ i)) && guardsLt 0 all
def onlyPan : Ex × Act × St → Res
  | (.pan ch, a, s) => some (.pan ch, a, s)
  | _ => none
def panTail (r : R) (ro : Option Nat) (all : List Oper) (i : Nat) (q : Ex × Act × St) : Res :=
  bif panOk all (bfL all) i then ((all.drop i).head?).bind fun o => (opF P r ro all o q.2.1 q.2.2).bind onlyPan else none
def panGo (r : R) (ro : Option Nat) (all : List Oper) (a : Act) (s : St) (i : Nat) : Res :=
  (drawn P (all.take i) a.size (bfL (all.take i)) (drawF P r ro (all.take i) (all.take i) 0 [] [] a s)).bind (panTail P r ro all i)
def drawnF (r : R) (ro : Option Nat) (all : List Oper) (a : Act) (s : St) : Res :=
  match drawn P all a.size (bfL all) (drawF P r ro all all 0 [] [] a s) with
  | some q => some q
  | none => (panAt P r ro all all 0 a s).bind (panGo P r ro all a s)

/-! Ranging over a function. -/
def pendF (a : Act) (s : St) : Code → Res
  | .ret => some (.ret, a, s)
  | .exit id => some (.exit id, a, s)
  | _ => none
def killLoop (a : Act) (l : Nat) (s : St) : Blk → Res
  | .loop .busy _ _ _ _ _ _ => none
  | .loop _ none _ _ _ _ _ => some (.norm, a, s.set l .dead)
  | .loop _ (some c) _ _ _ _ _ => pendF a (s.set l .dead) c
  | _ => none
def afterLoop (a : Act) (l : Nat) : Option (End × St) → Res
  | some (.ret _, s) => (s.get l).bind (killLoop a l s)
  | some (.pan ch, s) => some (.pan ch, a, s)
  | none => none
def goLoop (r : R) (f : Operand) (a : Act) (l : Nat) (s : St) : Res :=
  (a.eval f).bind fun v => (asFunc v).bind fun q =>
    match q.1 with
    | .func g => afterLoop a l (dropRc (r.call g (q.2.1 ++ (.func (.yield l) [] [] :: q.2.2)) none s))
    | _ => none
def rangeFuncF (r : R) (ro : Option Nat) (f : Operand) (params : Array Tmp) (asg body : Code) (a : Act) (s : St) : Res :=
  bif ro.isSome then none else
  (s.new .defd).bind fun d => (d.2.new (.loop .ready none a.tmps a.size params.toList asg body)).bind fun l =>
    goLoop r f ⟨a.tmps, a.size, .coll d.1 :: a.defers, a.rc⟩ l.1 l.2

def blockX (id : Nat) (x : Res) : Res :=
  match x with
  | some (.exit id', a, s) => bif Nat.beq id' id then some (.norm, a, s) else some (.exit id', a, s)
  | x => x

def loopF (body : Act → St → Res) : Nat → Act → St → Res
  | 0, _, _ => none
  | n + 1, a, s => andThen (body a s) (loopF body n)
def LN : Nat := 1000000

def codeF (r : R) (ro : Option Nat) : Code → Act → St → Res
  | .skip, a, s => some (.norm, a, s)
  | .label _, a, s => some (.norm, a, s)
  | .ret, a, s => some (.ret, a, s)
  | .exit id, a, s => some (.exit id, a, s)
  | .seq x y, a, s => andThen (codeF r ro x a s) (codeF r ro y)
  | .cond c x y, a, s => ((a.eval c).bind asBoolV).bind fun b => bif b then codeF r ro x a s else codeF r ro y a s
  | .block id x, a, s => blockX id (codeF r ro x a s)
  | .loop x, a, s => loopF (codeF r ro x) LN a s
  | .scope x, a, s => codeF r ro x a s
  | .region _ ops d, a, s => bif d then drawnF P r ro ops.toList a s else opsF P r ro ops.toList ops.toList a s
  | .rangeFunc f params asg body, a, s => rangeFuncF r ro f params asg body a s
  | _, _, _ => none

def endRound (l : Nat) (e : Ex) (s : St) : Blk → Option (End × St)
  | .loop _ _ tmps size params asg body =>
    match e with
    | .norm => some (.ret (.bool true), s.set l (.loop .ready none tmps size params asg body))
    | .ret => some (.ret (.bool false), s.set l (.loop .done (some .ret) tmps size params asg body))
    | .exit id => some (.ret (.bool false), s.set l (.loop .done (some (.exit id)) tmps size params asg body))
    | .pan ch => some (.pan ch, s)
  | _ => none
def closeRound (l : Nat) (r : Ex × Act × St) : Option (End × St) :=
  match r.2.1.defers with
  | [] => (r.2.2.get l).bind (endRound l r.1 r.2.2)
  | _ => none
def goRound (r : R) (l : Nat) (c : Code) (a : Act) (s : St) : Blk → Option (End × St)
  | .loop .ready pend tmps size params asg body => (codeF P r (some l) c a (s.set l (.loop .busy pend tmps size params asg body))).bind (closeRound l)
  | _ => none
def putParams : List Tmp → List V → Act → Option Act
  | [], [], a => some a
  | p :: ps, v :: vs, a => putParams ps vs (a.put (some p) v)
  | _, _, _ => none
def isNorm : Ex × Act × St → Option (Act × St)
  | (.norm, a, s) => some (a, s)
  | _ => none
def startRound (r : R) (l : Nat) (args : List V) (s : St) : Blk → Option (End × St)
  | .loop _ _ tmps size params asg body =>
    (putParams params args ⟨tmps, size, [], none⟩).bind fun a => (codeF P r (some l) asg a s).bind fun q => (isNorm q).bind fun q =>
      (q.2.get l).bind (goRound P r l body q.1 q.2)
  | _ => none
def roundF (r : R) (l : Nat) (args : List V) (s : St) : Option (End × St) := (s.get l).bind (startRound P r l args s)

/-! Leaving a function. -/
def resultOne (s : St) (tm : T V TD) : ResultVar → Option V
  | .tmp t => some ((T.get TD tm t).getD undef)
  | .cell a t => (asPtr ((T.get TD tm a).getD undef)).bind fun p => ldVar P s t p.1 p.2
def resultsV (s : St) (tm : T V TD) : List ResultVar → Option (List V)
  | [] => some []
  | x :: l => (resultOne P s tm x).bind fun v => (resultsV s tm l).map fun w => v :: w
def tupOf : List V → V
  | [v] => v
  | l => .tup l
def settleA : Option (List PE) → Option (List PE)
  | some ({ rcv := true, .. } :: _) => none
  | some [] => none
  | some ch => some ch
  | none => none
def leaveOne (r : R) (f : FuncId) (tm : T V TD) (ds : List Dfr) (u : Option (List PE)) (s : St) : Dfr → Option (End × St)
  | .coll d => (s.get d).bind fun b => match b with
    | .defd => r.leave f tm ds u (s.set d .dead)
    | _ => none
  | .fn g cap args => match g with
    | .func g => (r.call g (args ++ cap) (some (u.getD [])) s).bind fun q =>
      match q.1 with
      | .ret _ => r.leave f tm ds (settleA q.2.1) q.2.2
      | .pan ch => r.leave f tm ds (some (ch ++ q.2.1.getD [])) q.2.2
    | _ => none
def leaveF (r : R) (f : FuncId) (tm : T V TD) (ds : List Dfr) (u : Option (List PE)) (s : St) : Option (End × St) :=
  match ds with
  | [] => match u with
    | some ch => some (.pan ch, s)
    | none => (P.funcs[f]?).bind fun fn => (resultsV P s tm fn.results.toList).map fun l => (.ret (tupOf l), s)
  | d :: ds => leaveOne r f tm ds u s d

def listT : List V → Nat → T V TD → T V TD
  | [], _, t => t
  | v :: l, i, t => listT l (Nat.succ i) (T.set TD t i v)
def withRc (rc : Option (List PE)) (x : Option (End × St)) : Option (End × Option (List PE) × St) := x.map fun q => (q.1, rc, q.2)
def leaving (r : R) (f : FuncId) (q : Ex × Act × St) : Option (End × Option (List PE) × St) :=
  match q.1 with
  | .norm => withRc q.2.1.rc (r.leave f q.2.1.tmps q.2.1.defers none q.2.2)
  | .ret => withRc q.2.1.rc (r.leave f q.2.1.tmps q.2.1.defers none q.2.2)
  | .pan ch => withRc q.2.1.rc (r.leave f q.2.1.tmps q.2.1.defers (some ch) q.2.2)
  | .exit _ => none
def slots (fn : Func) (args : List V) : Nat := bif Nat.ble args.length fn.ntmps then fn.ntmps else args.length

abbrev Hook := FuncId → List V → St → Option (Option (V × St))

def enterF (r : R) (f : FuncId) (args : List V) (rc : Option (List PE)) (s : St) : Option (End × Option (List PE) × St) :=
  (P.funcs[f]?).bind fun fn => fn.body.bind fun c => bif Nat.ble (slots fn args) TN then
    (codeF P r none c ⟨listT args 0 (.nil TD), slots fn args, [], rc⟩ s).bind (leaving r f) else none
def callF (hook : Hook) (r : R) (f : FuncId) (args : List V) (rc : Option (List PE)) (s : St) : Option (End × Option (List PE) × St) :=
  match hook f args s with
  | some res => bif rc.isSome then none else res.map fun q => (.ret q.1, rc, q.2)
  | none => enterF P r f args rc s

def R.none : R := ⟨fun _ _ _ _ => .none, fun _ _ _ => .none, fun _ _ _ _ _ => .none⟩
variable (hook : Hook)
def step (r : R) : R := ⟨callF P hook r, roundF P r, leaveF P r⟩
def ev : Nat → R
  | 0 => R.none
  | n + 1 => step P hook (ev n)
end
end Go.Ev
