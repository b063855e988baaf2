/- The evaluator once more, in a form that the kernel runs fast: explicit recursors with closed branches, what can be known ahead of a run put into boxes. -/
import Derived.Test.YtcbhnjlbolafpabGreatDoorEvA
set_option linter.unusedVariables false
namespace Go.Ev.K
noncomputable section

structure Fn (α β : Type) where
  f : α → β
def sel4 {α : Type} (n : Nat) (x0 x1 x2 x3 : α) : α :=
  @Bool.rec (fun _ => α) (@Bool.rec (fun _ => α) (@Bool.rec (fun _ => α) x3 x2 (Nat.beq n 2)) x1 (Nat.beq n 1)) x0 (Nat.beq n 0)
def pj {α : Type} (n : Nat) : Fn (Q α) α := sel4 n ⟨fun x => x.a⟩ ⟨fun x => x.b⟩ ⟨fun x => x.c⟩ ⟨fun x => x.d⟩
def up0 {α β : Type} (x : Q α) : (α → (α → β) → β) → (Q α → β) → β := @Q.rec α (fun _ => (α → (α → β) → β) → (Q α → β) → β) (fun a b c d g k => g a fun a => k ⟨a, b, c, d⟩) x
def up1 {α β : Type} (x : Q α) : (α → (α → β) → β) → (Q α → β) → β := @Q.rec α (fun _ => (α → (α → β) → β) → (Q α → β) → β) (fun a b c d g k => g b fun b => k ⟨a, b, c, d⟩) x
def up2 {α β : Type} (x : Q α) : (α → (α → β) → β) → (Q α → β) → β := @Q.rec α (fun _ => (α → (α → β) → β) → (Q α → β) → β) (fun a b c d g k => g c fun c => k ⟨a, b, c, d⟩) x
def up3 {α β : Type} (x : Q α) : (α → (α → β) → β) → (Q α → β) → β := @Q.rec α (fun _ => (α → (α → β) → β) → (Q α → β) → β) (fun a b c d g k => g d fun d => k ⟨a, b, c, d⟩) x
def up {α β : Type} (n : Nat) : Fn (Q α) ((α → (α → β) → β) → (Q α → β) → β) := sel4 n ⟨up0⟩ ⟨up1⟩ ⟨up2⟩ ⟨up3⟩
def cmp {α β γ : Type} (g : Fn β γ) (p : Fn α β) : Fn α γ := @Fn.rec β γ (fun _ => Fn α γ) (fun g => @Fn.rec α β (fun _ => Fn α γ) (fun p => ⟨fun x => g (p x)⟩) p) g
def cmu {α β γ δ : Type} (s : Fn β (γ → (β → δ) → δ)) (u : Fn α ((β → (β → δ) → δ) → (α → δ) → δ)) : Fn α (γ → (α → δ) → δ) :=
  @Fn.rec β (γ → (β → δ) → δ) (fun _ => Fn α (γ → (α → δ) → δ)) (fun s => @Fn.rec α ((β → (β → δ) → δ) → (α → δ) → δ) (fun _ => Fn α (γ → (α → δ) → δ)) (fun u => ⟨fun x v k => u x (fun y k => s y v k) k⟩) u) s
def getB {α : Type} (d : Nat) : Nat → Fn (PT α d) α :=
  @Nat.rec (fun d => Nat → Fn (PT α d) α) (fun _ => ⟨fun x => x⟩) (fun _ ih n => cmp (ih (Nat.div n 4)) (pj (Nat.mod n 4))) d
def setB {α : Type} (δ : Type) (d : Nat) : Nat → Fn (PT α d) (α → (PT α d → δ) → δ) :=
  @Nat.rec (fun d => Nat → Fn (PT α d) (α → (PT α d → δ) → δ)) (fun _ => ⟨fun _ v k => k v⟩) (fun _ ih n => cmu (ih (Nat.div n 4)) (up (Nat.mod n 4))) d
def tget {α : Type} (d n : Nat) : Fn (T α d) (Option α) := @Bool.rec (fun _ => Fn (T α d) (Option α)) ⟨fun _ => none⟩ (getB d n) (Nat.blt n (4 ^ d))
def tset {α : Type} (δ : Type) (d n : Nat) : Fn (T α d) (α → (T α d → δ) → δ) :=
  @Bool.rec (fun _ => Fn (T α d) (α → (T α d → δ) → δ)) ⟨fun x _ k => k x⟩ (@Fn.rec (PT (Option α) d) (Option α → (PT (Option α) d → δ) → δ) (fun _ => Fn (T α d) (α → (T α d → δ) → δ)) (fun s => ⟨fun x v k => s x (some v) k⟩) (setB δ d n)) (Nat.blt n (4 ^ d))

abbrev C := Act → St → Res
abbrev KV := V → St → Res
structure OpB where
  ev : Act → (V → Res) → Res
structure LB where
  ev : Act → (List V → Res) → Res
structure PLB where
  ev : Act → (List (Nat × V) → Res) → Res
structure OOB where
  ev : Act → (Option V → Res) → Res
structure XB where
  run : Act → St → KV → (Out → Res) → Res
structure OB where
  run : R → Option Nat → C → Act → St → Res
structure PB where
  f : Act → V → (Act → Res) → Res
structure PartB where
  f : List V → Nat → (V → Res) → Res

/-! Numbers made plain. -/
def forceN (n : Nat) : (Nat → Res) → Res := @Nat.rec (fun _ => (Nat → Res) → Res) (fun k => k 0) (fun m _ k => k (Nat.succ m)) n
def forceI (n : Int) : (Int → Res) → Res := @Int.rec (fun _ => (Int → Res) → Res) (fun m k => forceN m fun m => k (Int.ofNat m)) (fun m k => forceN m fun m => k (Int.negSucc m)) n

/-! Options. -/
def optV (o : Option V) : (V → Res) → Res := @Option.rec V (fun _ => (V → Res) → Res) (fun _ => none) (fun v k => k v) o
def prodK {α β : Type} (p : α × β) : (α → β → Res) → Res := @Prod.rec α β (fun _ => (α → β → Res) → Res) (fun a b k => k a b) p
def optVS (o : Option (V × St)) : KV → Res := @Option.rec (V × St) (fun _ => KV → Res) (fun _ => none) (fun p k => prodK p k) o
def optS (o : Option St) : (St → Res) → Res := @Option.rec St (fun _ => (St → Res) → Res) (fun _ => none) (fun v k => k v) o
def outK (o : Out) : KV → (Out → Res) → Res :=
  @Out.rec (fun _ => KV → (Out → Res) → Res) (fun v s kv _ => kv v s) (fun d _ ko => ko (.dfr d)) (fun _ ko => ko .rcv) (fun f args _ ko => ko (.call f args)) (fun l args _ ko => ko (.yield l args)) (fun v _ ko => ko (.pan v)) o
def optO (o : Option Out) : KV → (Out → Res) → Res := @Option.rec Out (fun _ => KV → (Out → Res) → Res) (fun _ _ => none) (fun o kv ko => outK o kv ko) o

/-! Operands. -/
def orU (o : Option V) : V := @Option.rec V (fun _ => V) undef (fun v => v) o
def tmpB (g : Fn (T V TD) (Option V)) : OpB := @Fn.rec (T V TD) (Option V) (fun _ => OpB) (fun g => ⟨fun a k => k (orU (g a.tmps))⟩) g
def conB (o : Option V) : OpB := @Option.rec V (fun _ => OpB) ⟨fun _ _ => none⟩ (fun v => ⟨fun _ k => k v⟩) o
def opdJ (x : Operand) : OpB := @Operand.rec (fun _ => OpB) (fun t => tmpB (tget TD t)) (fun v => conB (ofValue v)) (fun _ => ⟨fun _ _ => none⟩) (fun f => ⟨fun _ k => k (.func (.func f) [] [])⟩) x
def consB (x : OpB) (l : LB) : LB := @OpB.rec (fun _ => LB) (fun x => @LB.rec (fun _ => LB) (fun l => ⟨fun a k => x a fun v => l a fun w => k (v :: w)⟩) l) x
def evalsJ (l : List Operand) : LB := @List.rec Operand (fun _ => LB) ⟨fun _ k => k []⟩ (fun x _ ih => consB (opdJ x) ih) l
def consPB (i : Nat) (x : OpB) (l : PLB) : PLB := @OpB.rec (fun _ => PLB) (fun x => @PLB.rec (fun _ => PLB) (fun l => ⟨fun a k => x a fun v => l a fun w => k ((i, v) :: w)⟩) l) x
def evalPJ (l : List (Nat × Operand)) : PLB := @List.rec (Nat × Operand) (fun _ => PLB) ⟨fun _ k => k []⟩ (fun p _ ih => @Prod.rec Nat Operand (fun _ => PLB) (fun i x => consPB i (opdJ x) ih) p) l
def someB (x : OpB) : OOB := @OpB.rec (fun _ => OOB) (fun x => ⟨fun a k => x a fun v => k (some v)⟩) x
def evalOJ (o : Option Operand) : OOB := @Option.rec Operand (fun _ => OOB) ⟨fun _ k => k none⟩ (fun x => someB (opdJ x)) o

/-! What a value is. -/
def vPtr (v : V) : (Nat → Nat → Res) → Res := @V.rec (fun _ => (Nat → Nat → Res) → Res) (fun _ => PUnit.{1}) (fun _ => fun _ => none) (fun _ _ => fun _ => none) (fun _ => fun _ => none) (fun b o k => k b o) (fun _ => none) (fun _ _ _ _ _ => fun _ => none) (fun _ _ _ => fun _ => none) (fun _ => none) (fun _ => fun _ => none) (fun _ => none) (fun _ _ _ _ _ => fun _ => none) (fun _ => none) (fun _ _ _ => fun _ => none) (fun _ => none) (fun _ _ => fun _ => none) (fun _ _ => fun _ => none) PUnit.unit (fun _ _ _ _ => PUnit.unit) v
def vBool (v : V) : (Bool → Res) → Res := @V.rec (fun _ => (Bool → Res) → Res) (fun _ => PUnit.{1}) (fun b k => k b) (fun _ _ => fun _ => none) (fun _ => fun _ => none) (fun _ _ => fun _ => none) (fun _ => none) (fun _ _ _ _ _ => fun _ => none) (fun _ _ _ => fun _ => none) (fun _ => none) (fun _ => fun _ => none) (fun _ => none) (fun _ _ _ _ _ => fun _ => none) (fun _ => none) (fun _ _ _ => fun _ => none) (fun _ => none) (fun _ _ => fun _ => none) (fun _ _ => fun _ => none) PUnit.unit (fun _ _ _ _ => PUnit.unit) v
def iNat (n : Int) : (Nat → Res) → Res := @Int.rec (fun _ => (Nat → Res) → Res) (fun m k => k m) (fun _ _ => none) n
def vNat (v : V) : (Nat → Res) → Res := @V.rec (fun _ => (Nat → Res) → Res) (fun _ => PUnit.{1}) (fun _ => fun _ => none) (fun _ n k => iNat n k) (fun _ => fun _ => none) (fun _ _ => fun _ => none) (fun _ => none) (fun _ _ _ _ _ => fun _ => none) (fun _ _ _ => fun _ => none) (fun _ => none) (fun _ => fun _ => none) (fun _ => none) (fun _ _ _ _ _ => fun _ => none) (fun _ => none) (fun _ _ _ => fun _ => none) (fun _ => none) (fun _ _ => fun _ => none) (fun _ _ => fun _ => none) PUnit.unit (fun _ _ _ _ => PUnit.unit) v
def vTup (v : V) : (List V → Res) → Res := @V.rec (fun _ => (List V → Res) → Res) (fun _ => PUnit.{1}) (fun _ => fun _ => none) (fun _ _ => fun _ => none) (fun _ => fun _ => none) (fun _ _ => fun _ => none) (fun _ => none) (fun _ _ _ _ _ => fun _ => none) (fun _ _ _ => fun _ => none) (fun _ => none) (fun _ => fun _ => none) (fun _ => none) (fun _ _ _ _ _ => fun _ => none) (fun _ => none) (fun _ _ _ => fun _ => none) (fun _ => none) (fun _ _ => fun _ => none) (fun l _ k => k l) PUnit.unit (fun _ _ _ _ => PUnit.unit) v
def vOne (v : V) : Bool := @V.rec (fun _ => Bool) (fun _ => PUnit.{1}) (fun _ => true) (fun _ _ => true) (fun _ => true) (fun _ _ => true) (true) (fun _ _ _ _ _ => true) (fun _ _ _ => true) (true) (fun _ => true) (true) (fun _ _ _ _ _ => true) (true) (fun _ _ _ => true) (true) (fun _ _ => false) (fun _ _ => false) PUnit.unit (fun _ _ _ _ => PUnit.unit) v

/-! Cells. -/
def consK (x : V) (k : List V → Res) (l : List V) : Res := k (x :: l)
/-- without a continuation: the kernel keeps what it has found -/
def nthD (o : Nat) : List V → Option V :=
  @Nat.rec (fun _ => List V → Option V) (fun l => @List.rec V (fun _ => Option V) none (fun v _ _ => some v) l)
    (fun _ ih l => @List.rec V (fun _ => (List V → Option V) → Option V) (fun _ => none) (fun _ l _ ih => ih l) l ih) o
def nthK (o : Nat) (l : List V) (k : V → Res) : Res := optV (nthD o l) k
def takeK (n : Nat) : List V → (List V → Res) → Res :=
  @Nat.rec (fun _ => List V → (List V → Res) → Res) (fun _ k => k [])
    (fun _ ih l k => @List.rec V (fun _ => (List V → (List V → Res) → Res) → (List V → Res) → Res) (fun _ _ => none) (fun v l _ ih k => ih l (consK v k)) l ih k) n
def dropK (o : Nat) : List V → (List V → Res) → Res :=
  @Nat.rec (fun _ => List V → (List V → Res) → Res) (fun l k => k l)
    (fun _ ih l k => @List.rec V (fun _ => (List V → (List V → Res) → Res) → (List V → Res) → Res) (fun _ k => k []) (fun _ l _ ih k => ih l k) l ih k) o
def overK (vs : List V) : List V → (List V → Res) → Res :=
  @List.rec V (fun _ => List V → (List V → Res) → Res) (fun l k => k l)
    (fun v _ ih l k => @List.rec V (fun _ => V → (List V → (List V → Res) → Res) → (List V → Res) → Res) (fun _ _ _ => none) (fun _ l _ v ih k => @Bool.rec (fun _ => Res) none (ih l (consK v k)) (vOne v)) l v ih k) vs
def putK (o : Nat) : List V → List V → (List V → Res) → Res :=
  @Nat.rec (fun _ => List V → List V → (List V → Res) → Res) (fun l vs k => overK vs l k)
    (fun _ ih l vs k => @List.rec V (fun _ => (List V → List V → (List V → Res) → Res) → List V → (List V → Res) → Res) (fun _ _ _ => none) (fun x l _ ih vs k => ih l vs (consK x k)) l ih vs k) o
def lenK (l : List V) : Nat → (Nat → Res) → Res := @List.rec V (fun _ => Nat → (Nat → Res) → Res) (fun n k => k n) (fun _ _ ih n k => ih (Nat.succ n) k) l
def lenBK (l : List UInt8) : Nat → (Nat → Res) → Res := @List.rec UInt8 (fun _ => Nat → (Nat → Res) → Res) (fun n k => k n) (fun _ _ ih n k => ih (Nat.succ n) k) l
def allOneK (l : List V) : Bool := @List.rec V (fun _ => Bool) true (fun v _ ih => @Bool.rec (fun _ => Bool) false ih (vOne v)) l

/-! Blocks. -/
def optB (o : Option Blk) : (Blk → Res) → Res := @Option.rec Blk (fun _ => (Blk → Res) → Res) (fun _ => none) (fun x k => k x) o
def hgetK (s : St) (b : Nat) (k : Blk → Res) : Res := optB ((tget HD b).f s.heap) k
def bCells (x : Blk) : (List V → Bool → Nat → Res) → Res := @Blk.rec (fun _ => (List V → Bool → Nat → Res) → Res) (fun l x e k => k l x e) (fun _ _ => fun _ => none) (fun _ _ => fun _ => none) (fun _ _ => fun _ => none) (fun _ _ _ _ _ _ _ => fun _ => none) (fun _ => none) (fun _ => none) x
def rowK (s : St) (b : Nat) (k : List V → Res) : Res := hgetK s b fun x => bCells x fun l _ _ => k l
def setK (s : St) (b : Nat) (x : Blk) (k : St → Res) : Res := @St.rec (fun _ => Nat → Blk → (St → Res) → Res) (fun h n b x k => (tset Res HD b).f h x fun h => k ⟨h, n⟩) s b x k
def newGo (n : Nat) (h : T Blk HD) (x : Blk) (k : Nat → St → Res) : Res := @Bool.rec (fun _ => Res) none ((tset Res HD n).f h x fun h => k n ⟨h, Nat.succ n⟩) (Nat.blt n HN)
def newK (s : St) : Blk → (Nat → St → Res) → Res := @St.rec (fun _ => Blk → (Nat → St → Res) → Res) (fun h n x k => forceN n fun n => newGo n h x k) s
/-- cells written to a block -/
def wrGo (s : St) (b : Nat) (x : Bool) (e : Nat) (k : St → Res) (l : List V) : Res := setK s b (.cells l x e) k
def wrK (s : St) (b o : Nat) (vs : List V) (k : St → Res) : Res := hgetK s b fun y => bCells y fun l x e => putK o l vs (wrGo s b x e k)

def forceV (v : V) : (V → Res) → Res := @V.rec (fun _ => (V → Res) → Res) (fun _ => PUnit.{1}) (fun a0 k => k (.bool a0)) (fun a0 a1 k => k (.int a0 a1)) (fun a0 k => k (.str a0)) (fun a0 a1 k => k (.ptr a0 a1)) (fun k => k (.nilp)) (fun a0 a1 a2 a3 a4 k => k (.slice a0 a1 a2 a3 a4)) (fun a0 a1 a2 k => k (.etail a0 a1 a2)) (fun k => k (.nils)) (fun a0 k => k (.map a0)) (fun k => k (.nilm)) (fun a0 a1 a2 a3 a4 k => k (.func a0 a1 a2)) (fun k => k (.nilf)) (fun a0 a1 a2 k => k (.iface a0 a1)) (fun k => k (.nili)) (fun a0 a1 k => k (.agg a0)) (fun a0 a1 k => k (.tup a0)) PUnit.unit (fun _ _ _ _ => PUnit.unit) v
def forceVC (v : V) : (V → Option (End × Option (List PE) × St)) → Option (End × Option (List PE) × St) := @V.rec (fun _ => (V → Option (End × Option (List PE) × St)) → Option (End × Option (List PE) × St)) (fun _ => PUnit.{1}) (fun a0 k => k (.bool a0)) (fun a0 a1 k => k (.int a0 a1)) (fun a0 k => k (.str a0)) (fun a0 a1 k => k (.ptr a0 a1)) (fun k => k (.nilp)) (fun a0 a1 a2 a3 a4 k => k (.slice a0 a1 a2 a3 a4)) (fun a0 a1 a2 k => k (.etail a0 a1 a2)) (fun k => k (.nils)) (fun a0 k => k (.map a0)) (fun k => k (.nilm)) (fun a0 a1 a2 a3 a4 k => k (.func a0 a1 a2)) (fun k => k (.nilf)) (fun a0 a1 a2 k => k (.iface a0 a1)) (fun k => k (.nili)) (fun a0 a1 k => k (.agg a0)) (fun a0 a1 k => k (.tup a0)) PUnit.unit (fun _ _ _ _ => PUnit.unit) v
def isCellsK (n : Nat) (l : List V) (k : List V → Res) : Res := lenK l 0 fun m => @Bool.rec (fun _ => Res) none (k l) (Nat.beq m n)
def vCells (v : V) : (List V → Res) → Res := @V.rec (fun _ => (List V → Res) → Res) (fun _ => PUnit.{1}) (fun a0 k => k [.bool a0]) (fun a0 a1 k => k [.int a0 a1]) (fun a0 k => k [.str a0]) (fun a0 a1 k => k [.ptr a0 a1]) (fun k => k [.nilp]) (fun a0 a1 a2 a3 a4 k => k [.slice a0 a1 a2 a3 a4]) (fun a0 a1 a2 k => k [.etail a0 a1 a2]) (fun k => k [.nils]) (fun a0 k => k [.map a0]) (fun k => k [.nilm]) (fun a0 a1 a2 a3 a4 k => k [.func a0 a1 a2]) (fun k => k [.nilf]) (fun a0 a1 a2 k => k [.iface a0 a1]) (fun k => k [.nili]) (fun l _ k => k l) (fun a0 a1 k => k [.tup a0]) PUnit.unit (fun _ _ _ _ => PUnit.unit) v

section
variable (P : Program)
/-! Each operation. -/
def partJ (t : TypeId) : PartB :=
  @Option.rec Bool (fun _ => PartB) ⟨fun _ _ _ => none⟩ (fun a => @Bool.rec (fun _ => PartB) ⟨fun cs o k => nthK o cs k⟩
    (@Option.rec Nat (fun _ => PartB) ⟨fun _ _ _ => none⟩ (fun n => ⟨fun cs o k => dropK o cs fun l => takeK n l fun l => k (.agg l)⟩) (szOf P t)) a) (agg? P t)
def mvX (x : OpB) : XB := @OpB.rec (fun _ => XB) (fun x => ⟨fun a s kv _ => x a fun v => kv v s⟩) x
def pickX (c x y : OpB) : XB := @OpB.rec (fun _ => XB) (fun c => @OpB.rec (fun _ => XB) (fun x => @OpB.rec (fun _ => XB) (fun y =>
  ⟨fun a s kv _ => c a fun c => vBool c fun c => @Bool.rec (fun _ => Res) (y a fun v => kv v s) (x a fun v => kv v s) c⟩) y) x) c
def allocX (z : Option (List V)) : XB := @Option.rec (List V) (fun _ => XB) ⟨fun _ _ _ _ => none⟩ (fun z =>
  @Bool.rec (fun _ => XB) ⟨fun _ _ _ _ => none⟩ ⟨fun _ s kv _ => newK s (.cells z true 0) fun b s => kv (.ptr b 0) s⟩ (allOne z)) z
def boxX (x : OpB) : XB := @OpB.rec (fun _ => XB) (fun x => ⟨fun a s kv _ => x a fun v => vCells v fun l => @Bool.rec (fun _ => Res) none (newK s (.cells l true 0) fun b s => kv (.ptr b 0) s) (allOneK l)⟩) x
def buildX (t : TypeId) (l : PLB) : XB := @PLB.rec (fun _ => XB) (fun l => ⟨fun a s kv _ => l a fun ps => optV (buildV P t ps) fun v => kv v s⟩) l
def buildSliceX (t : TypeId) (n : Nat) (l : PLB) : XB := @PLB.rec (fun _ => XB) (fun l => ⟨fun a s kv _ => l a fun ps => optVS (buildSliceV P s t n ps) kv⟩) l
def loadX (x : OpB) (p : PartB) : XB := @OpB.rec (fun _ => XB) (fun x => @PartB.rec (fun _ => XB) (fun p =>
  ⟨fun a s kv _ => x a fun v => vPtr v fun b o => rowK s b fun cs => p cs o fun w => kv w s⟩) p) x
def storeX (n : Option Nat) (x y : OpB) : XB := @OpB.rec (fun _ => XB) (fun x => @OpB.rec (fun _ => XB) (fun y =>
  @Option.rec Nat (fun _ => XB) ⟨fun _ _ _ _ => none⟩ (fun n => ⟨fun a s kv _ => x a fun v => vPtr v fun b o => y a fun w => vCells w fun l => isCellsK n l fun l => wrK s b o l fun s => kv undef s⟩) n) y) x
def nilK (v : V) : (V → Res) → Res := @V.rec (fun _ => (V → Res) → Res) (fun _ => PUnit.{1}) (fun _ => fun _ => none) (fun _ _ => fun _ => none) (fun _ => fun _ => none) (fun b o k => k (.ptr b o)) (fun _ => none) (fun b o l c f k => k (.slice b o l c f)) (fun _ _ _ => fun _ => none) (fun _ => none) (fun _ => fun _ => none) (fun _ => none) (fun f x y _ _ k => optV (nilCheckV P (.func f x y)) k) (fun _ => none) (fun t w _ k => k (.iface t w)) (fun _ => none) (fun _ _ => fun _ => none) (fun _ _ => fun _ => none) PUnit.unit (fun _ _ _ _ => PUnit.unit) v
def nilX (x : OpB) : XB := @OpB.rec (fun _ => XB) (fun x => ⟨fun a s kv _ => x a fun v => nilK P v fun v => kv v s⟩) x

def limit (k : IntKind) : Nat := @IntKind.rec (fun _ => Nat) 128 32768 2147483648 9223372036854775808 256 65536 4294967296 18446744073709551616 k
def signedB (k : IntKind) : Bool := @IntKind.rec (fun _ => Bool) true true true true false false false false k
def bitsK (k : IntKind) : Nat := @IntKind.rec (fun _ => Nat) 8 16 32 64 8 16 32 64 k
def wrapBig (k : IntKind) (m : Nat) (κ : Int → Res) : Res := @Bool.rec (fun _ => Res) (forceN (Nat.mod m (limit k)) fun m => κ (Int.ofNat m)) (forceI (k.wrap (Int.ofNat m)) κ) (signedB k)
def wrapG (k : IntKind) (κ : Int → Res) (m : Nat) : Res := @Bool.rec (fun _ => Res) (wrapBig k m κ) (κ (Int.ofNat m)) (Nat.blt m (limit k))
def wrapN (k : IntKind) (m : Nat) (κ : Int → Res) : Res := forceN m (wrapG k κ)
def wrapK (k : IntKind) (n : Int) : (Int → Res) → Res :=
  @Int.rec (fun _ => IntKind → (Int → Res) → Res) (fun m k κ => wrapN k m κ) (fun m k κ => forceI (k.wrap (Int.negSucc m)) κ) n k
structure IB where
  f : IntKind → Int → Int → (V → Res) → Res
def intEqK (a b : Int) : Bool := @Int.rec (fun _ => Int → Bool) (fun m b => @Int.rec (fun _ => Bool) (fun n => Nat.beq m n) (fun _ => false) b) (fun m b => @Int.rec (fun _ => Bool) (fun _ => false) (fun n => Nat.beq m n) b) a b
def intLtK (a b : Int) : Bool := @Int.rec (fun _ => Int → Bool) (fun m b => @Int.rec (fun _ => Bool) (fun n => Nat.blt m n) (fun _ => false) b) (fun m b => @Int.rec (fun _ => Bool) (fun _ => true) (fun n => Nat.blt n m) b) a b
def notK (b : Bool) : Bool := @Bool.rec (fun _ => Bool) true false b
def kvB (b : Bool) : (V → Res) → Res := @Bool.rec (fun _ => (V → Res) → Res) (fun k => k (.bool false)) (fun k => k (.bool true)) b
def vI (v : V) : (V → Res) → Res := @V.rec (fun _ => (V → Res) → Res) (fun _ => PUnit.{1}) (fun b κ => kvB b κ) (fun k n κ => forceI n fun n => κ (.int k n)) (fun _ => fun _ => none) (fun _ _ => fun _ => none) (fun _ => none) (fun _ _ _ _ _ => fun _ => none) (fun _ _ _ => fun _ => none) (fun _ => none) (fun _ => fun _ => none) (fun _ => none) (fun _ _ _ _ _ => fun _ => none) (fun _ => none) (fun _ _ _ => fun _ => none) (fun _ => none) (fun _ _ => fun _ => none) (fun _ _ => fun _ => none) PUnit.unit (fun _ _ _ _ => PUnit.unit) v
def intGen (op : BinOp) : IB := ⟨fun k a b κ => optV (intOpV op k a b) fun v => vI v κ⟩
/-- two numbers that are not below zero -/
def iNN (a b : Int) : Res → (Nat → Nat → Res) → Res :=
  @Int.rec (fun _ => Int → Res → (Nat → Nat → Res) → Res) (fun m b => @Int.rec (fun _ => Nat → Res → (Nat → Nat → Res) → Res) (fun n m _ f => f m n) (fun _ _ slow _ => slow) b m) (fun _ _ slow _ => slow) a b
def kInt (k : IntKind) (κ : V → Res) (n : Int) : Res := κ (.int k n)
def slowI (op : BinOp) (k : IntKind) (a b : Int) (κ : V → Res) : Res := optV (intOpV op k a b) fun v => vI v κ
def addB : IB := ⟨fun k a b κ => iNN a b (wrapK k (Int.add a b) (kInt k κ)) fun m n => wrapN k (Nat.add m n) (kInt k κ)⟩
def subB : IB := ⟨fun k a b κ => iNN a b (wrapK k (Int.sub a b) (kInt k κ)) fun m n => @Bool.rec (fun _ => Res) (wrapK k (Int.sub a b) (kInt k κ)) (wrapN k (Nat.sub m n) (kInt k κ)) (Nat.ble n m)⟩
def mulB : IB := ⟨fun k a b κ => iNN a b (wrapK k (Int.mul a b) (kInt k κ)) fun m n => wrapN k (Nat.mul m n) (kInt k κ)⟩
def bitB (f : Nat → Nat → Nat) (op : BinOp) : IB := ⟨fun k a b κ => iNN a b (slowI op k a b κ) fun m n =>
  @Bool.rec (fun _ => Res) (slowI op k a b κ) (@Bool.rec (fun _ => Res) (slowI op k a b κ) (forceN (f m n) fun z => κ (.int k (.ofNat z))) (Nat.blt n (limit k))) (Nat.blt m (limit k))⟩
def minK (j : Nat) (k : IntKind) : Nat := @Bool.rec (fun _ => Nat) (bitsK k) j (Nat.ble j (bitsK k))
def slowS (op : BinOp) (k : IntKind) (a b : Int) (κ : V → Res) : Res := optV (shiftV op k a b) fun v => vI v κ
def shlB : IB := ⟨fun k a b κ => iNN a b (slowS .shl k a b κ) fun m j => wrapN k (Nat.mul m (Nat.pow 2 (minK j k))) (kInt k κ)⟩
def shrB : IB := ⟨fun k a b κ => iNN a b (slowS .shr k a b κ) fun m j => forceN (Nat.div m (Nat.pow 2 (minK j k))) fun z => κ (.int k (.ofNat z))⟩
def shJ (op : BinOp) : IB := match op with | .shl => shlB | .shr => shrB | op => ⟨slowS op⟩
def eqB : IB := ⟨fun _ a b κ => kvB (intEqK a b) κ⟩
def neB : IB := ⟨fun _ a b κ => kvB (notK (intEqK a b)) κ⟩
def ltB : IB := ⟨fun _ a b κ => kvB (intLtK a b) κ⟩
def leB : IB := ⟨fun _ a b κ => kvB (notK (intLtK b a)) κ⟩
def gtB : IB := ⟨fun _ a b κ => kvB (intLtK b a) κ⟩
def geB : IB := ⟨fun _ a b κ => kvB (notK (intLtK a b)) κ⟩
def intJ (op : BinOp) : IB := @BinOp.rec (fun _ => IB) addB subB mulB (intGen .quo) (intGen .rem) (bitB Nat.land .and) (bitB Nat.lor .or) (bitB Nat.xor .xor) (intGen .shl) (intGen .shr) (intGen .andNot) eqB neB ltB leB gtB geB op
def kEqK (a b : IntKind) : Bool := Nat.beq a.ctorIdx b.ctorIdx
structure BB where
  f : V → V → St → (V → Res) → Res
def vInt (v : V) (kn : V → Res) : (IntKind → Int → Res) → Res := @V.rec (fun _ => (V → Res) → (IntKind → Int → Res) → Res) (fun _ => PUnit.{1}) (fun a0 kn _ => kn (.bool a0)) (fun k n _ κ => κ k n) (fun a0 kn _ => kn (.str a0)) (fun a0 a1 kn _ => kn (.ptr a0 a1)) (fun kn _ => kn (.nilp)) (fun a0 a1 a2 a3 a4 kn _ => kn (.slice a0 a1 a2 a3 a4)) (fun a0 a1 a2 kn _ => kn (.etail a0 a1 a2)) (fun kn _ => kn (.nils)) (fun a0 kn _ => kn (.map a0)) (fun kn _ => kn (.nilm)) (fun a0 a1 a2 a3 a4 kn _ => kn (.func a0 a1 a2)) (fun kn _ => kn (.nilf)) (fun a0 a1 a2 kn _ => kn (.iface a0 a1)) (fun kn _ => kn (.nili)) (fun a0 a1 kn _ => kn (.agg a0)) (fun a0 a1 kn _ => kn (.tup a0)) PUnit.unit (fun _ _ _ _ => PUnit.unit) v kn
def binPlain (i : IB) (g : V → V → St → Option V) : BB := @IB.rec (fun _ => BB) (fun i =>
  ⟨fun x y s κ => vInt x (fun x => optV (g x y s) κ) fun k a => vInt y (fun _ => none) fun k' b => @Bool.rec (fun _ => Res) none (i k a b κ) (kEqK k k')⟩) i
def binShift (i : IB) (g : V → V → St → Option V) : BB := @IB.rec (fun _ => BB) (fun i =>
  ⟨fun x y s κ => vInt x (fun x => optV (g x y s) κ) fun k a => vInt y (fun _ => none) fun _ b => i k a b κ⟩) i
def binJ (c : Bool) (op : BinOp) (t : TypeId) : BB := @Bool.rec (fun _ => BB) (binPlain (intJ op) fun x y s => binOpV P s c op t x y) (binShift (shJ op) fun x y s => binOpV P s c op t x y) (isShift op)
def binX (x y : OpB) (b : BB) : XB := @OpB.rec (fun _ => XB) (fun x => @OpB.rec (fun _ => XB) (fun y => @BB.rec (fun _ => XB) (fun b =>
  ⟨fun a s kv _ => x a fun v => y a fun w => b v w s fun u => kv u s⟩) b) y) x

def notV (v : V) : (V → Res) → Res := @V.rec (fun _ => (V → Res) → Res) (fun _ => PUnit.{1}) (fun b κ => kvB (notK b) κ) (fun _ _ => fun _ => none) (fun _ => fun _ => none) (fun _ _ => fun _ => none) (fun _ => none) (fun _ _ _ _ _ => fun _ => none) (fun _ _ _ => fun _ => none) (fun _ => none) (fun _ => fun _ => none) (fun _ => none) (fun _ _ _ _ _ => fun _ => none) (fun _ => none) (fun _ _ _ => fun _ => none) (fun _ => none) (fun _ _ => fun _ => none) (fun _ _ => fun _ => none) PUnit.unit (fun _ _ _ _ => PUnit.unit) v
def slowU (v : V) (κ : V → Res) : Res := optV (unOpV .xor v) κ
def notUk (k : IntKind) (m : Nat) (κ : V → Res) : Res := @Bool.rec (fun _ => Res) (@Bool.rec (fun _ => Res) (slowU (.int k (.ofNat m)) κ) (forceN (Nat.xor (Nat.sub (limit k) 1) m) fun z => κ (.int k (.ofNat z))) (Nat.blt m (limit k))) (slowU (.int k (.ofNat m)) κ) (signedB k)
def notU (v : V) (κ : V → Res) : Res := vInt v (fun v => slowU v κ) fun k n => @Int.rec (fun _ => IntKind → (V → Res) → Res) (fun m k κ => notUk k m κ) (fun m k κ => slowU (.int k (.negSucc m)) κ) n k κ
def unX (op : UnOp) (x : OpB) : XB := @UnOp.rec (fun _ => OpB → XB)
  (fun x => @OpB.rec (fun _ => XB) (fun x => ⟨fun a s kv _ => x a fun v => optV (unOpV .neg v) fun v => kv v s⟩) x)
  (fun x => @OpB.rec (fun _ => XB) (fun x => ⟨fun a s kv _ => x a fun v => notU v fun v => kv v s⟩) x)
  (fun x => @OpB.rec (fun _ => XB) (fun x => ⟨fun a s kv _ => x a fun v => notV v fun v => kv v s⟩) x)
  (fun x => @OpB.rec (fun _ => XB) (fun x => ⟨fun a s kv _ => x a fun v => optV (unOpV .plus v) fun v => kv v s⟩) x) op x
structure CvB where
  f : V → St → KV → Res
def cvGen (src dst : TypeId) : CvB := ⟨fun v s kv => optVS (convertV P s src dst v) kv⟩
def cvInt (src dst : TypeId) (k : IntKind) : CvB := ⟨fun v s kv => vInt v (fun v => optVS (convertV P s src dst v) kv) fun _ n => wrapK k n fun n => kv (.int k n) s⟩

def cvD (src dst : TypeId) (d : TypeDesc) : CvB := @TypeDesc.rec (fun _ => CvB) (cvGen P src dst) (cvGen P src dst) (fun k => cvInt P src dst k) (fun _ => cvGen P src dst) (fun _ => cvGen P src dst) (cvGen P src dst) (cvGen P src dst) (fun _ => cvGen P src dst) (fun _ => cvGen P src dst) (fun _ _ => cvGen P src dst) (fun _ _ => cvGen P src dst) (fun _ _ => cvGen P src dst) (fun _ => cvGen P src dst) (fun _ _ _ => cvGen P src dst) (fun _ => cvGen P src dst) (fun _ => cvGen P src dst) (fun _ _ => cvGen P src dst) d
def cvJ (src dst : TypeId) : CvB := @Option.rec TypeDesc (fun _ => CvB) (cvGen P src dst) (fun _ => @Option.rec TypeDesc (fun _ => CvB) (cvGen P src dst) (fun d => cvD P src dst d) (P.underlying dst)) (P.underlying src)
def convX (x : OpB) (c : CvB) : XB := @OpB.rec (fun _ => XB) (fun x => @CvB.rec (fun _ => XB) (fun c => ⟨fun a s kv _ => x a fun v => c v s kv⟩) c) x
def ifaceX (t : TypeId) (x : OpB) : XB := @OpB.rec (fun _ => XB) (fun x => ⟨fun a s kv _ => x a fun v => optV (makeIfaceV P t v) fun v => kv v s⟩) x
def funcX (fn : Go.Fn) (f c : LB) : XB := @LB.rec (fun _ => XB) (fun f => @LB.rec (fun _ => XB) (fun c => @Bool.rec (fun _ => XB) ⟨fun a _ _ _ => f a fun _ => c a fun _ => none⟩ ⟨fun a s kv _ => f a fun f => c a fun c => kv (.func fn f c) s⟩ (goodFn fn)) c) f
def mapX (r : Option Operand) : XB := @Bool.rec (fun _ => XB) ⟨fun _ _ _ _ => none⟩ ⟨fun _ s kv _ => newK s (.map [] (some ([], 0))) fun r s => kv (.map r) s⟩ r.isNone
def mkSliceX (t : TypeId) (l c : OpB) : XB := @OpB.rec (fun _ => XB) (fun l => @OpB.rec (fun _ => XB) (fun c => ⟨fun a s kv _ => l a fun l => c a fun c => optVS (makeSliceV P s t l c) kv⟩) c) l
def sliceX (t : TypeId) (x : OpB) (lo hi mx : OOB) : XB := @OpB.rec (fun _ => XB) (fun x => @OOB.rec (fun _ => XB) (fun lo => @OOB.rec (fun _ => XB) (fun hi => @OOB.rec (fun _ => XB) (fun mx =>
  ⟨fun a s kv _ => x a fun x => lo a fun lo => hi a fun hi => mx a fun mx => optV (sliceV P t x lo hi mx) fun v => kv v s⟩) mx) hi) lo) x
def faddrGo (fd : Field) (n : Option Nat) (x : Act → (V → Res) → Res) : XB := @Option.rec Nat (fun _ => XB) ⟨fun _ _ _ _ => none⟩ (fun n => @Bool.rec (fun _ => XB)
  ⟨fun a s kv _ => x a fun v => vPtr v fun b o => kv (.ptr b (Nat.add o fd.offset)) s⟩ ⟨fun a _ _ _ => x a fun _ => none⟩ (Nat.beq n 0)) n
def faddrX (t : TypeId) (x : OpB) (f : Nat) : XB := @OpB.rec (fun _ => XB) (fun x => @Option.rec Field (fun _ => XB) ⟨fun a _ _ _ => x a fun _ => none⟩ (fun fd => faddrGo fd (szOf P fd.type) x) (fieldOf P t f)) x
def fieldX (t : TypeId) (x : OpB) (f : Nat) : XB := @OpB.rec (fun _ => XB) (fun x => ⟨fun a s kv _ => x a fun x => optV (fieldV P t x f) fun v => kv v s⟩) x
def vRowArr (n len : Nat) (v : V) : Nat → (V → Res) → Res := @V.rec (fun _ => Nat → (V → Res) → Res) (fun _ => PUnit.{1}) (fun _ => fun _ _ => none) (fun _ _ => fun _ _ => none) (fun _ => fun _ _ => none) (fun b o i κ => @Bool.rec (fun _ => Res) none (κ (.ptr b (Nat.add o (Nat.mul i n)))) (Nat.blt i len)) (fun _ _ => none) (fun _ _ _ _ _ => fun _ _ => none) (fun _ _ _ => fun _ _ => none) (fun _ _ => none) (fun _ => fun _ _ => none) (fun _ _ => none) (fun _ _ _ _ _ => fun _ _ => none) (fun _ _ => none) (fun _ _ _ => fun _ _ => none) (fun _ _ => none) (fun _ _ => fun _ _ => none) (fun _ _ => fun _ _ => none) PUnit.unit (fun _ _ _ _ => PUnit.unit) v
def vRowSl (n : Nat) (v : V) : Nat → (V → Res) → Res := @V.rec (fun _ => Nat → (V → Res) → Res) (fun _ => PUnit.{1}) (fun _ => fun _ _ => none) (fun _ _ => fun _ _ => none) (fun _ => fun _ _ => none) (fun _ _ => fun _ _ => none) (fun _ _ => none) (fun b o len _ _ i κ => @Bool.rec (fun _ => Res) none (κ (.ptr b (Nat.add o (Nat.mul i n)))) (Nat.blt i len)) (fun _ _ _ => fun _ _ => none) (fun _ _ => none) (fun _ => fun _ _ => none) (fun _ _ => none) (fun _ _ _ _ _ => fun _ _ => none) (fun _ _ => none) (fun _ _ _ => fun _ _ => none) (fun _ _ => none) (fun _ _ => fun _ _ => none) (fun _ _ => fun _ _ => none) PUnit.unit (fun _ _ _ _ => PUnit.unit) v
structure IxB where
  f : V → Nat → (V → Res) → Res
def ixArr (len : Nat) (n : Option Nat) : IxB := @Option.rec Nat (fun _ => IxB) ⟨fun _ _ _ => none⟩ (fun n => ⟨fun v => vRowArr n len v⟩) n
def ixSl (n : Option Nat) : IxB := @Option.rec Nat (fun _ => IxB) ⟨fun _ _ _ => none⟩ (fun n => ⟨fun v => vRowSl n v⟩) n
def ixD (d : TypeDesc) : IxB := @TypeDesc.rec (fun _ => IxB) (⟨fun _ _ _ => none⟩) (⟨fun _ _ _ => none⟩) (fun _ => ⟨fun _ _ _ => none⟩) (fun _ => ⟨fun _ _ _ => none⟩) (fun _ => ⟨fun _ _ _ => none⟩) (⟨fun _ _ _ => none⟩) (⟨fun _ _ _ => none⟩) (fun _ => ⟨fun _ _ _ => none⟩) (fun e => ixSl (szOf P e)) (fun len e => ixArr len (szOf P e)) (fun _ _ => ⟨fun _ _ _ => none⟩) (fun _ _ => ⟨fun _ _ _ => none⟩) (fun _ => ⟨fun _ _ _ => none⟩) (fun _ _ _ => ⟨fun _ _ _ => none⟩) (fun _ => ⟨fun _ _ _ => none⟩) (fun _ => ⟨fun _ _ _ => none⟩) (fun _ _ => ⟨fun _ _ _ => none⟩) d
def ixJ (t : TypeId) : IxB := @Option.rec TypeDesc (fun _ => IxB) ⟨fun _ _ _ => none⟩ (fun d => ixD P d) (P.underlying t)
def iaddrX (x i : OpB) (g : IxB) : XB := @OpB.rec (fun _ => XB) (fun x => @OpB.rec (fun _ => XB) (fun i => @IxB.rec (fun _ => XB) (fun g =>
  ⟨fun a s kv _ => x a fun x => i a fun i => vNat i fun n => g x n fun v => kv v s⟩) g) i) x

def vAgg (v : V) : (List V → Res) → Res := @V.rec (fun _ => (List V → Res) → Res) (fun _ => PUnit.{1}) (fun _ => fun _ => none) (fun _ _ => fun _ => none) (fun _ => fun _ => none) (fun _ _ => fun _ => none) (fun _ => none) (fun _ _ _ _ _ => fun _ => none) (fun _ _ _ => fun _ => none) (fun _ => none) (fun _ => fun _ => none) (fun _ => none) (fun _ _ _ _ _ => fun _ => none) (fun _ => none) (fun _ _ _ => fun _ => none) (fun _ => none) (fun l _ k => k l) (fun _ _ => fun _ => none) PUnit.unit (fun _ _ _ _ => PUnit.unit) v
def vStr (v : V) : (List UInt8 → Res) → Res := @V.rec (fun _ => (List UInt8 → Res) → Res) (fun _ => PUnit.{1}) (fun _ => fun _ => none) (fun _ _ => fun _ => none) (fun l k => k l) (fun _ _ => fun _ => none) (fun _ => none) (fun _ _ _ _ _ => fun _ => none) (fun _ _ _ => fun _ => none) (fun _ => none) (fun _ => fun _ => none) (fun _ => none) (fun _ _ _ _ _ => fun _ => none) (fun _ => none) (fun _ _ _ => fun _ => none) (fun _ => none) (fun _ _ => fun _ => none) (fun _ _ => fun _ => none) PUnit.unit (fun _ _ _ _ => PUnit.unit) v
def nthB (o : Nat) : List UInt8 → (UInt8 → Res) → Res :=
  @Nat.rec (fun _ => List UInt8 → (UInt8 → Res) → Res) (fun l => @List.rec UInt8 (fun _ => (UInt8 → Res) → Res) (fun _ => none) (fun v _ _ k => k v) l)
    (fun _ ih l k => @List.rec UInt8 (fun _ => (List UInt8 → (UInt8 → Res) → Res) → (UInt8 → Res) → Res) (fun _ _ => none) (fun _ l _ ih k => ih l k) l ih k) o
def ivArr (len : Nat) (n : Option Nat) (p : PartB) : IxB := @Option.rec Nat (fun _ => IxB) ⟨fun _ _ _ => none⟩ (fun n => @PartB.rec (fun _ => IxB) (fun p => ⟨fun v i κ => vAgg v fun cs => @Bool.rec (fun _ => Res) none (p cs (Nat.mul i n) κ) (Nat.blt i len)⟩) p) n
def ivStr : IxB := ⟨fun v i κ => vStr v fun l => nthB i l fun b => forceN b.toNat fun n => κ (.int .u8 (Int.ofNat n))⟩
def ivD (d : TypeDesc) : IxB := @TypeDesc.rec (fun _ => IxB) (⟨fun _ _ _ => none⟩) (⟨fun _ _ _ => none⟩) (fun _ => ⟨fun _ _ _ => none⟩) (fun _ => ⟨fun _ _ _ => none⟩) (fun _ => ⟨fun _ _ _ => none⟩) (ivStr) (⟨fun _ _ _ => none⟩) (fun _ => ⟨fun _ _ _ => none⟩) (fun _ => ⟨fun _ _ _ => none⟩) (fun len e => ivArr len (szOf P e) (partJ P e)) (fun _ _ => ⟨fun _ _ _ => none⟩) (fun _ _ => ⟨fun _ _ _ => none⟩) (fun _ => ⟨fun _ _ _ => none⟩) (fun _ _ _ => ⟨fun _ _ _ => none⟩) (fun _ => ⟨fun _ _ _ => none⟩) (fun _ => ⟨fun _ _ _ => none⟩) (fun _ _ => ⟨fun _ _ _ => none⟩) d
def ivJ (t : TypeId) : IxB := @Option.rec TypeDesc (fun _ => IxB) ⟨fun _ _ _ => none⟩ (fun d => ivD P d) (P.underlying t)
def lookX (t : TypeId) (x k : OpB) (ok : Bool) : XB := @OpB.rec (fun _ => XB) (fun x => @OpB.rec (fun _ => XB) (fun k => ⟨fun a s kv _ => x a fun x => k a fun k => optV (lookupV P s t x k ok) fun v => kv v s⟩) k) x
def mapUpX (t : TypeId) (m k x : OpB) : XB := @OpB.rec (fun _ => XB) (fun m => @OpB.rec (fun _ => XB) (fun k => @OpB.rec (fun _ => XB) (fun x =>
  ⟨fun a s kv _ => m a fun m => k a fun k => x a fun x => optS (mapUpdateV P s t m k x) fun s => kv undef s⟩) x) k) m
def rangeX (t : TypeId) (x : OpB) : XB := @OpB.rec (fun _ => XB) (fun x => ⟨fun a s kv _ => x a fun x => optVS (rangeV P s t x) kv⟩) x
def nextX (x : OpB) (isStr : Bool) : XB := @OpB.rec (fun _ => XB) (fun x => ⟨fun a s kv _ => x a fun x => optVS (nextV s x isStr) kv⟩) x
def assertX (x : OpB) (t : TypeId) (ok : Bool) : XB := @OpB.rec (fun _ => XB) (fun x => ⟨fun a s kv _ => x a fun x => optV (typeAssertV P x t ok) fun v => kv v s⟩) x
def entryX (x : OpB) : XB := @OpB.rec (fun _ => XB) (fun x => ⟨fun a s kv _ => x a fun x => optV (entryV s x) fun v => kv v s⟩) x
def extractX (x : OpB) (i : Nat) : XB := @OpB.rec (fun _ => XB) (fun x => ⟨fun a s kv _ => x a fun x => vTup x fun l => nthK i l fun v => kv v s⟩) x
/-! Calls. -/
def lenStr (v : V) : (V → Res) → Res := @V.rec (fun _ => (V → Res) → Res) (fun _ => PUnit.{1}) (fun _ => fun _ => none) (fun _ _ => fun _ => none) (fun b κ => lenBK b 0 fun n => forceN n fun n => κ (.int .i64 (Int.ofNat n))) (fun _ _ => fun _ => none) (fun _ => none) (fun _ _ _ _ _ => fun _ => none) (fun _ _ _ => fun _ => none) (fun _ => none) (fun _ => fun _ => none) (fun _ => none) (fun _ _ _ _ _ => fun _ => none) (fun _ => none) (fun _ _ _ => fun _ => none) (fun _ => none) (fun _ _ => fun _ => none) (fun _ _ => fun _ => none) PUnit.unit (fun _ _ _ _ => PUnit.unit) v
def lenSl (v : V) : (V → Res) → Res := @V.rec (fun _ => (V → Res) → Res) (fun _ => PUnit.{1}) (fun _ => fun _ => none) (fun _ _ => fun _ => none) (fun _ => fun _ => none) (fun _ _ => fun _ => none) (fun _ => none) (fun _ _ n _ _ κ => κ (.int .i64 (Int.ofNat n))) (fun _ _ _ κ => κ (.int .i64 (Int.ofNat 0))) (fun κ => κ (.int .i64 (Int.ofNat 0))) (fun _ => fun _ => none) (fun _ => none) (fun _ _ _ _ _ => fun _ => none) (fun _ => none) (fun _ _ _ => fun _ => none) (fun _ => none) (fun _ _ => fun _ => none) (fun _ _ => fun _ => none) PUnit.unit (fun _ _ _ _ => PUnit.unit) v
structure L1 where
  f : V → St → (V → Res) → Res
def lenGen (ts : Array TypeId) : L1 := ⟨fun v s κ => optV (lenV P s ts v) κ⟩
def lenD (ts : Array TypeId) (d : TypeDesc) : L1 := @TypeDesc.rec (fun _ => L1) (lenGen P ts) (lenGen P ts) (fun _ => lenGen P ts) (fun _ => lenGen P ts) (fun _ => lenGen P ts) (⟨fun v _ κ => lenStr v κ⟩) (lenGen P ts) (fun _ => lenGen P ts) (fun _ => ⟨fun v _ κ => lenSl v κ⟩) (fun _ _ => lenGen P ts) (fun _ _ => lenGen P ts) (fun _ _ => lenGen P ts) (fun _ => lenGen P ts) (fun _ _ _ => lenGen P ts) (fun _ => lenGen P ts) (fun _ => lenGen P ts) (fun _ _ => lenGen P ts) d
def lenJ (ts : Array TypeId) : L1 := @Option.rec TypeDesc (fun _ => L1) (lenGen P ts) (fun d => lenD P ts d) (typeAt P ts 0)
def lenX (l : LB) (g : L1) : XB := @LB.rec (fun _ => XB) (fun l => @L1.rec (fun _ => XB) (fun g => ⟨fun a s kv _ => l a fun l =>
  @List.rec V (fun _ => (V → St → (V → Res) → Res) → St → KV → Res) (fun _ _ _ => none) (fun x l _ g s kv => @List.rec V (fun _ => Res) (g x s fun v => kv v s) (fun _ _ _ => none) l) l g s kv⟩) g) l
def callGen (c : Call) (l : LB) : XB := @LB.rec (fun _ => XB) (fun l => ⟨fun a s kv ko => l a fun l => optO (callV P a s c l) kv ko⟩) l
def biX (b : Builtin) (ts : Array TypeId) (l : LB) : XB := @LB.rec (fun _ => XB) (fun l => ⟨fun a s kv ko => l a fun l => optO (builtinV P s b ts l) kv ko⟩) l
def isLen (b : Builtin) : Bool := match b with | .len => true | _ => false
def statX (f : FuncId) (l : LB) : XB := @LB.rec (fun _ => XB) (fun l => ⟨fun a _ _ ko => l a fun l => ko (.call f l)⟩) l
def valX (x : OpB) (l : LB) : XB := @OpB.rec (fun _ => XB) (fun x => @LB.rec (fun _ => XB) (fun l => ⟨fun a s kv ko => l a fun l => x a fun f => optO ((asFunc f).bind fun q => invokeFn P s q.1 q.2.2 (q.2.1 ++ l)) kv ko⟩) l) x
def calleeJ (x : Operand) (l : LB) : XB := @Operand.rec (fun _ => XB) (fun t => valX P (opdJ (.tmp t)) l) (fun v => valX P (opdJ (.const v)) l) (fun g => valX P (opdJ (.global g)) l) (fun f => statX f l) x
def invX (x : OpB) (name : String) (l : LB) : XB := @OpB.rec (fun _ => XB) (fun x => @LB.rec (fun _ => XB) (fun l => ⟨fun a s kv ko => l a fun l => x a fun r => optO (invokeM P s name (r :: l)) kv ko⟩) l) x
def callJ (c : Call) : XB := @Callee.rec (fun _ => XB) (fun f => calleeJ P f (evalsJ c.args.toList)) (fun r name => invX P (opdJ r) name (evalsJ c.args.toList))
  (fun b => @Bool.rec (fun _ => XB) (biX P b c.argTypes (evalsJ c.args.toList)) (lenX (evalsJ c.args.toList) (lenJ P c.argTypes)) (isLen b)) c.callee
def deferX (c : Call) (l : LB) : XB := @LB.rec (fun _ => XB) (fun l => ⟨fun a s kv ko => l a fun l => optO (deferV a c l) kv ko⟩) l
def panicX (x : OpB) : XB := @OpB.rec (fun _ => XB) (fun x => ⟨fun a s kv ko => x a fun v => optO (panicV v) kv ko⟩) x
def badX : XB := ⟨fun _ _ _ _ => none⟩

def xJ (o : Op) : XB := @Op.rec (fun _ => XB)
  (fun x => mvX (opdJ x))
  (fun x => mvX (opdJ x))
  (fun c x y => pickX (opdJ c) (opdJ x) (opdJ y))
  (fun t => allocX (zeroOf P t))
  (fun _ x => boxX (opdJ x))
  (fun t ps => buildX P t (evalPJ ps.toList))
  (fun t n ps => buildSliceX P t n (evalPJ ps.toList))
  (fun t m k x => mapUpX P t (opdJ m) (opdJ k) (opdJ x))
  (fun t x => loadX (opdJ x) (partJ P t))
  (fun t x y => storeX (szOf P t) (opdJ x) (opdJ y))
  (fun _ => badX)
  (fun _ => badX)
  (fun x => nilX P (opdJ x))
  (fun op t x y _ => binX (opdJ x) (opdJ y) (binJ P (isConstO x || isConstO y) op t))
  (fun op _ x => unX op (opdJ x))
  (fun a b x => convX (opdJ x) (cvJ P a b))
  (fun _ _ => badX)
  (fun t x => ifaceX P t (opdJ x))
  (fun fn f c => funcX fn (evalsJ f.toList) (evalsJ c.toList))
  (fun _ r => mapX r)
  (fun _ _ => badX)
  (fun t l c => mkSliceX P t (opdJ l) (opdJ c))
  (fun t x lo hi mx => sliceX P t (opdJ x) (evalOJ lo) (evalOJ hi) (evalOJ mx))
  (fun t x f => faddrX P t (opdJ x) f)
  (fun t x f => fieldX P t (opdJ x) f)
  (fun t x i => iaddrX (opdJ x) (opdJ i) (ixJ P t))
  (fun t x i => iaddrX (opdJ x) (opdJ i) (ivJ P t))
  (fun t x k ok => lookX P t (opdJ x) (opdJ k) ok)
  (fun t m k x => mapUpX P t (opdJ m) (opdJ k) (opdJ x))
  (fun _ _ _ => badX)
  (fun _ _ _ _ => badX)
  (fun t x => rangeX P t (opdJ x))
  (fun x s => nextX (opdJ x) s)
  (fun x => entryX (opdJ x))
  (fun x _ t ok => assertX P (opdJ x) t ok)
  (fun x i => extractX (opdJ x) i)
  (fun c => callJ P c)
  (fun _ => badX)
  (fun c => deferX c (evalsJ c.args.toList))
  (fun x => panicX (opdJ x))
  (fun _ _ => badX)
  (fun _ _ _ => badX)
  (fun _ _ => badX)
  o

/-! Operations one behind the other. -/
def putA (d : Nat) (s : Fn (T V TD) (V → (T V TD → Res) → Res)) : PB := @Fn.rec (T V TD) (V → (T V TD → Res) → Res) (fun _ => PB) (fun g =>
  ⟨fun a v k => @Act.rec (fun _ => V → (Act → Res) → Res) (fun tm sz df rc v k => @Bool.rec (fun _ => Res) (k ⟨tm, sz, df, rc⟩) (forceV v fun v => g tm v fun tm => k ⟨tm, sz, df, rc⟩) (Nat.blt d sz)) a v k⟩) s
def putJ (d : Option Tmp) : PB := @Option.rec Tmp (fun _ => PB) ⟨fun a _ k => k a⟩ (fun d => putA d (tset Res TD d)) d
def endK (e : End) : (V → Res) → (List PE → Res) → Res := @End.rec (fun _ => (V → Res) → (List PE → Res) → Res) (fun v kv _ => kv v) (fun ch _ kp => kp ch) e
def pairE (p : End × St) : KV → (List PE → St → Res) → Res := @Prod.rec End St (fun _ => KV → (List PE → St → Res) → Res) (fun e s kv kp => endK e (fun v => kv v s) (fun ch => kp ch s)) p
def tripE (p : End × Option (List PE) × St) : KV → (List PE → St → Res) → Res :=
  @Prod.rec End (Option (List PE) × St) (fun _ => KV → (List PE → St → Res) → Res) (fun e q => @Prod.rec (Option (List PE)) St (fun _ => End → KV → (List PE → St → Res) → Res) (fun _ s e kv kp => endK e (fun v => kv v s) (fun ch => kp ch s)) q e) p
def optE (o : Option (End × St)) : KV → (List PE → St → Res) → Res := @Option.rec (End × St) (fun _ => KV → (List PE → St → Res) → Res) (fun _ _ => none) (fun p => pairE p) o
def optE3 (o : Option (End × Option (List PE) × St)) : KV → (List PE → St → Res) → Res := @Option.rec (End × Option (List PE) × St) (fun _ => KV → (List PE → St → Res) → Res) (fun _ _ => none) (fun p => tripE p) o
/-- what an operation that gives no value does: how it goes on, how it ends -/
def otherK (o : Out) : R → Option Nat → Option Tmp → Act → St → C → (Ex → C) → Res :=
  @Out.rec (fun _ => R → Option Nat → Option Tmp → Act → St → C → (Ex → C) → Res)
    (fun v s' _ _ dst a _ kn _ => kn (a.put dst v) s')
    (fun d _ ro dst a s kn _ => @Bool.rec (fun _ => Res) (kn ((deferA a d).put dst undef) s) none ro.isSome)
    (fun _ ro dst a s kn _ => @Bool.rec (fun _ => Res) (kn (recoverA a dst a.rc) s) none ro.isSome)
    (fun f args r _ dst a s kn kx => optE3 (r.call f args none s) (fun v s => (putJ dst).f a v fun a => kn a s) fun ch s => kx (.pan ch) a s)
    (fun l args r _ dst a s kn kx => optE (r.round l args s) (fun v s => (putJ dst).f a v fun a => kn a s) fun ch s => kx (.pan ch) a s)
    (fun v _ _ _ a s _ kx => kx (.pan [⟨v, false⟩]) a s) o
def fin (e : Ex) (a : Act) (s : St) : Res := some (e, a, s)
def opRun (x : XB) (p : PB) (dst : Option Tmp) : OB := @XB.rec (fun _ => OB) (fun x => @PB.rec (fun _ => OB) (fun p =>
  ⟨fun r ro k a s => x a s (fun v s => p a v fun a => k a s) fun o => otherK o r ro dst a s k fin⟩) p) x
def skipRun (p : PB) : C → Act → St → Res := @PB.rec (fun _ => C → Act → St → Res) (fun p k a s => p a undef fun a => k a s) p
/-- an operation under a guard -/
def guarded (all : List Oper) (g : Nat × Bool) (p : PB) (x : OB) : OB := @PB.rec (fun _ => OB) (fun p => @OB.rec (fun _ => OB) (fun x =>
  ⟨fun r ro k a s => @Bool.rec (fun _ => Res) (p a undef fun a => k a s) (x r ro k a s) (wantedA all a (some g))⟩) x) p
def guardJ (all : List Oper) (g : Option (Nat × Bool)) (p : PB) (x : OB) : OB := @Option.rec (Nat × Bool) (fun _ => OB) x (fun g => guarded all g p x) g
def opJ (all : List Oper) (o : Oper) : OB := guardJ all o.guard (putJ o.dst) (opRun (xJ P o.op) (putJ o.dst) o.dst)
def thenB (x y : OB) : OB := @OB.rec (fun _ => OB) (fun x => @OB.rec (fun _ => OB) (fun y => ⟨fun r ro k a s => x r ro (y r ro k) a s⟩) y) x
def opsJ (all : List Oper) (l : List Oper) : OB := @List.rec Oper (fun _ => OB) ⟨fun _ _ k a s => k a s⟩ (fun o _ ih => thenB (opJ P all o) ih) l

/-! Regions that draw their order. -/
abbrev DC := Act → St → List Snap → List Ld → Res
structure DB where
  run : R → Option Nat → DC → Act → St → List Snap → List Ld → Res
def isSomeR (x : Res) : Bool := @Option.rec (Ex × Act × St) (fun _ => Bool) false (fun _ => true) x

def beqInt (k : IntKind) (n : Int) (y : V) : Bool := @V.rec (fun _ => IntKind → Int → Bool) (fun _ => PUnit.{1}) (fun _ => fun _ _ => false) (fun k' m k n => @Bool.rec (fun _ => Bool) false (intEqK n m) (kEqK k k')) (fun _ => fun _ _ => false) (fun _ _ => fun _ _ => false) (fun _ _ => false) (fun _ _ _ _ _ => fun _ _ => false) (fun _ _ _ => fun _ _ => false) (fun _ _ => false) (fun _ => fun _ _ => false) (fun _ _ => false) (fun _ _ _ _ _ => fun _ _ => false) (fun _ _ => false) (fun _ _ _ => fun _ _ => false) (fun _ _ => false) (fun _ _ => fun _ _ => false) (fun _ _ => fun _ _ => false) PUnit.unit (fun _ _ _ _ => PUnit.unit) y k n
def beqK (x y : V) : Bool := @V.rec (fun _ => V → Bool) (fun _ => PUnit.{1}) (fun a0 y => V.beq (.bool a0) y) (fun k n y => beqInt k n y) (fun a0 y => V.beq (.str a0) y) (fun a0 a1 y => V.beq (.ptr a0 a1) y) (fun y => V.beq (.nilp) y) (fun a0 a1 a2 a3 a4 y => V.beq (.slice a0 a1 a2 a3 a4) y) (fun a0 a1 a2 y => V.beq (.etail a0 a1 a2) y) (fun y => V.beq (.nils) y) (fun a0 y => V.beq (.map a0) y) (fun y => V.beq (.nilm) y) (fun a0 a1 a2 a3 a4 y => V.beq (.func a0 a1 a2) y) (fun y => V.beq (.nilf) y) (fun a0 a1 a2 y => V.beq (.iface a0 a1) y) (fun y => V.beq (.nili) y) (fun a0 a1 y => V.beq (.agg a0) y) (fun a0 a1 y => V.beq (.tup a0) y) PUnit.unit (fun _ _ _ _ => PUnit.unit) x y
def seesJ (x : Ld) (s : St) : Bool := isSomeR ((xJ P x.op).run x.act s (fun v s' => @Bool.rec (fun _ => Res) none (some (.norm, x.act, s')) (beqK v x.v)) fun _ => none)
/-- a member of the chain and a read: the member's phase, and those behind it ('ih') -/
def ldAt (bf : List Nat) (at_ : Nat) (x : Ld) (c : Snap) (ih : Bool) : Bool := @Snap.rec (fun _ => Bool) (fun ca cs =>
  @Bool.rec (fun _ => Bool) (@Bool.rec (fun _ => Bool) false (@Bool.rec (fun _ => Bool) ih true (bit bf ca at_)) (seesJ P x cs)) (@Bool.rec (fun _ => Bool) ih true (bit bf ca at_)) (bit bf at_ ca)) c
def ldJ (bf : List Nat) (x : Ld) (s : St) (l : List Snap) : Bool := @Ld.rec (fun _ => Bool) (fun at_ op act v =>
  @List.rec Snap (fun _ => Bool) (seesJ P ⟨at_, op, act, v⟩ s) (fun c _ ih => ldAt P bf at_ ⟨at_, op, act, v⟩ c ih) l) x
def chain2 (bf : List Nat) (at_ : Nat) (l : List Snap) (ih : Bool) : Bool := @List.rec Snap (fun _ => Bool) true (fun t _ _ => @Snap.rec (fun _ => Bool) (fun ta _ => @Bool.rec (fun _ => Bool) false ih (bit bf at_ ta)) t) l
def chainK (bf : List Nat) (l : List Snap) : Bool := @List.rec Snap (fun _ => Bool) true (fun s l ih => @Snap.rec (fun _ => Bool) (fun sa _ => chain2 bf sa l ih) s) l
def allLd (bf : List Nat) (s : St) (sn : List Snap) (l : List Ld) : Bool := @List.rec Ld (fun _ => Bool) true (fun x _ ih => @Bool.rec (fun _ => Bool) false ih (ldJ P bf x s sn)) l
def noEx (_ : Ex) (_ : Act) (_ : St) : Res := none
structure SnB where
  f : St → List Snap → List Snap
def snJ (c : Bool) (i : Nat) : SnB := @Bool.rec (fun _ => SnB) ⟨fun _ sn => sn⟩ ⟨fun s sn => ⟨i, s⟩ :: sn⟩ c
structure LdB where
  f : Act → V → List Ld → List Ld
def ldB (c : Bool) (i : Nat) (o : Op) : LdB := @Bool.rec (fun _ => LdB) ⟨fun _ _ l => l⟩ ⟨fun a v l => ⟨i, o, a, v⟩ :: l⟩ c
def rowRun (x : XB) (p : PB) (dst : Option Tmp) (sb : SnB) (lb : LdB) (y : DB) : DB :=
  @XB.rec (fun _ => DB) (fun x => @PB.rec (fun _ => DB) (fun p => @SnB.rec (fun _ => DB) (fun sb => @LdB.rec (fun _ => DB) (fun lb => @DB.rec (fun _ => DB) (fun y =>
    ⟨fun r ro k a s sn ld => x a s (fun v s' => p a v fun a' => y r ro k a' s' (sb s sn) (lb a v ld)) fun o => otherK o r ro dst a s (fun a' s' => y r ro k a' s' (sb s sn) ld) noEx⟩) y) lb) sb) p) x
def guardedD (all : List Oper) (g : Nat × Bool) (p : PB) (y x : DB) : DB := @PB.rec (fun _ => DB) (fun p => @DB.rec (fun _ => DB) (fun y => @DB.rec (fun _ => DB) (fun x =>
  ⟨fun r ro k a s sn ld => @Bool.rec (fun _ => Res) (p a undef fun a => y r ro k a s sn ld) (x r ro k a s sn ld) (wantedA all a (some g))⟩) x) y) p
def guardD (all : List Oper) (g : Option (Nat × Bool)) (p : PB) (y x : DB) : DB := @Option.rec (Nat × Bool) (fun _ => DB) x (fun g => guardedD all g p y x) g
def rowJ (all : List Oper) (o : Oper) (i : Nat) (y : DB) : DB :=
  guardD all o.guard (putJ o.dst) y (rowRun (xJ P o.op) (putJ o.dst) o.dst (snJ (isChain P o.op) i) (ldB (readsO P o.op && !isChain P o.op) i o.op) y)
def rowsJ (all : List Oper) (l : List Oper) : Nat → DB := @List.rec Oper (fun _ => Nat → DB) (fun _ => ⟨fun _ _ k a s sn ld => k a s sn ld⟩) (fun o _ ih i => rowJ P all o i (ih (Nat.succ i))) l
def drawEnd (all : List Oper) (bf : List Nat) (n : Nat) (a : Act) (s : St) (sn : List Snap) (ld : List Ld) : Res :=
  @Bool.rec (fun _ => Res) none (@Bool.rec (fun _ => Res) none (@Bool.rec (fun _ => Res) none (some (.norm, a, s)) (allLd P bf s sn.reverse ld)) (chainK bf sn)) (drawOk all bf n)
def resK (x : Res) : (Ex → C) → Res → Res := @Option.rec (Ex × Act × St) (fun _ => (Ex → C) → Res → Res) (fun _ y => y) (fun p k _ => prodK p fun e q => prodK q fun a s => k e a s) x
def exK (e : Ex) : C → Act → St → Res := @Ex.rec (fun _ => C → Act → St → Res) (fun k a s => k a s) (fun i _ a s => fin (.exit i) a s) (fun _ a s => fin .ret a s) (fun ch _ a s => fin (.pan ch) a s) e
def drawGo (all : List Oper) (bf : List Nat) (y : DB) : OB := @DB.rec (fun _ => OB) (fun y =>
  ⟨fun r ro k a s => resK (y r ro (drawEnd P all bf a.size) a s [] []) (fun e a s => exK e k a s) (resK ((panAt P r ro all all 0 a s).bind (panGo P r ro all a s)) (fun e a s => exK e k a s) none)⟩) y
def drawJ (all : List Oper) : OB := drawGo P all (bfL all) (rowsJ P all all 0)

/-! Code. -/
def condJ (c : OpB) (x y : OB) : OB := @OpB.rec (fun _ => OB) (fun c => @OB.rec (fun _ => OB) (fun x => @OB.rec (fun _ => OB) (fun y =>
  ⟨fun r ro k a s => c a fun v => vBool v fun b => @Bool.rec (fun _ => Res) (y r ro k a s) (x r ro k a s) b⟩) y) x) c
def blockK (id : Nat) (e : Ex) : C → Act → St → Res := @Ex.rec (fun _ => C → Act → St → Res) (fun k a s => k a s) (fun i k a s => @Bool.rec (fun _ => Res) (fin (.exit i) a s) (k a s) (Nat.beq i id)) (fun _ a s => fin .ret a s) (fun ch _ a s => fin (.pan ch) a s) e
def blockJ (id : Nat) (x : OB) : OB := @OB.rec (fun _ => OB) (fun x => ⟨fun r ro k a s => resK (x r ro (fin .norm) a s) (fun e a s => blockK id e k a s) none⟩) x
def loopJ (x : R → Option Nat → C → Act → St → Res) (n : Nat) : R → Option Nat → C → Act → St → Res :=
  @Nat.rec (fun _ => R → Option Nat → C → Act → St → Res) (fun _ _ _ _ _ => none) (fun _ ih r ro k a s => x r ro (ih r ro k) a s) n
def loopB (x : OB) : OB := @OB.rec (fun _ => OB) (fun x => ⟨loopJ x LN⟩) x
def rangeJ (f : Operand) (ps : Array Tmp) (asg body : Code) : OB := ⟨fun r ro k a s => resK (rangeFuncF r ro f ps asg body a s) (fun e a s => exK e k a s) none⟩
def codeJ (c : Code) : OB := @Code.rec (fun _ => OB)
  ⟨fun _ _ k a s => k a s⟩
  (fun _ ops d => @Bool.rec (fun _ => OB) (opsJ P ops.toList ops.toList) (drawJ P ops.toList) d)
  (fun _ _ x y => thenB x y)
  (fun c _ _ x y => condJ (opdJ c) x y)
  (fun id _ x => blockJ id x)
  (fun _ x => loopB x)
  (fun f ps asg body _ _ => rangeJ f ps asg body)
  (fun id => ⟨fun _ _ _ a s => fin (.exit id) a s⟩)
  (fun _ x => x)
  (fun _ => ⟨fun _ _ k a s => k a s⟩)
  (fun _ => ⟨fun _ _ _ _ _ => none⟩)
  ⟨fun _ _ _ a s => fin .ret a s⟩
  (fun _ => ⟨fun _ _ _ _ _ => none⟩) c
/-- a piece of code, to its end -/
def runC (c : Code) (r : R) (ro : Option Nat) (a : Act) (s : St) : Res := (codeJ P c).run r ro (fin .norm) a s

/-! Functions. -/
abbrev CR := Option (End × Option (List PE) × St)
structure FB where
  run : R → List V → Option (List PE) → St → CR
def resC (x : Res) : (Ex → Act → St → CR) → CR := @Option.rec (Ex × Act × St) (fun _ => (Ex → Act → St → CR) → CR) (fun _ => none) (fun p k => @Prod.rec Ex (Act × St) (fun _ => (Ex → Act → St → CR) → CR) (fun e q k => @Prod.rec Act St (fun _ => Ex → (Ex → Act → St → CR) → CR) (fun a s e k => k e a s) q e k) p k) x
def rcC (rc : Option (List PE)) (x : Option (End × St)) : CR := @Option.rec (End × St) (fun _ => Option (List PE) → CR) (fun _ => none) (fun p rc => @Prod.rec End St (fun _ => Option (List PE) → CR) (fun e s rc => some (e, rc, s)) p rc) x rc
def leavingK (r : R) (f : FuncId) (e : Ex) : Act → St → CR := @Ex.rec (fun _ => R → FuncId → Act → St → CR)
  (fun r f a s => rcC a.rc (r.leave f a.tmps a.defers none s)) (fun _ _ _ _ _ => none) (fun r f a s => rcC a.rc (r.leave f a.tmps a.defers none s)) (fun ch r f a s => rcC a.rc (r.leave f a.tmps a.defers (some ch) s)) e r f
def listK (l : List V) : Nat → T V TD → (T V TD → CR) → CR := @List.rec V (fun _ => Nat → T V TD → (T V TD → CR) → CR) (fun _ t k => k t) (fun v _ ih i t k => forceVC v fun v => (tset CR TD i).f t v fun t => ih (Nat.succ i) t k) l
def forceNC (n : Nat) : (Nat → CR) → CR := @Nat.rec (fun _ => (Nat → CR) → CR) (fun k => k 0) (fun m _ k => k (Nat.succ m)) n
def fnGo (f : FuncId) (fn : Func) (x : OB) : FB := @OB.rec (fun _ => FB) (fun x =>
  ⟨fun r args rc s => forceNC (slots fn args) fun n => @Bool.rec (fun _ => CR) none (listK args 0 (.nil TD) fun t => resC (x r none (fin .norm) ⟨t, n, [], rc⟩ s) fun e a s => leavingK r f e a s) (Nat.ble n TN)⟩) x
def fnB (f : FuncId) (o : Option Func) : FB := @Option.rec Func (fun _ => FB) ⟨fun _ _ _ _ => none⟩ (fun fn => @Option.rec Code (fun _ => FB) ⟨fun _ _ _ _ => none⟩ (fun c => fnGo f fn (codeJ P c)) fn.body) o
def fnJ (f : FuncId) : FB := fnB P f P.funcs[f]?
variable (hook : Hook)
def hookK (rc : Option (List PE)) (res : Option (V × St)) : CR := @Bool.rec (fun _ => CR) (@Option.rec (V × St) (fun _ => CR) none (fun p => @Prod.rec V St (fun _ => CR) (fun v s => some (.ret v, rc, s)) p) res) none rc.isSome
def callK (r : R) (f : FuncId) (args : List V) (rc : Option (List PE)) (s : St) : CR :=
  @Option.rec (Option (V × St)) (fun _ => CR) ((fnJ P f).run r args rc s) (fun res => hookK rc res) (hook f args s)
structure RvB where
  f : St → T V TD → Option V
structure RsB where
  f : St → T V TD → Option (List V)
def rvTmp (g : Fn (T V TD) (Option V)) : RvB := @Fn.rec (T V TD) (Option V) (fun _ => RvB) (fun g => ⟨fun _ tm => some (orU (g tm))⟩) g
def rvJ (x : ResultVar) : RvB := @ResultVar.rec (fun _ => RvB) (fun t => rvTmp (tget TD t)) (fun a t => ⟨fun s tm => resultOne P s tm (.cell a t)⟩) x
def consRs (x : RvB) (l : RsB) : RsB := @RvB.rec (fun _ => RsB) (fun x => @RsB.rec (fun _ => RsB) (fun l =>
  ⟨fun s tm => @Option.rec V (fun _ => Option (List V)) none (fun v => @Option.rec (List V) (fun _ => Option (List V)) none (fun w => some (v :: w)) (l s tm)) (x s tm)⟩) l) x
def resultsJ (l : List ResultVar) : RsB := @List.rec ResultVar (fun _ => RsB) ⟨fun _ _ => some []⟩ (fun x _ ih => consRs (rvJ P x) ih) l
def leaveK (r : R) (f : FuncId) (tm : T V TD) (ds : List Dfr) (u : Option (List PE)) (s : St) : Option (End × St) :=
  @List.rec Dfr (fun _ => Option (End × St))
    (@Option.rec (List PE) (fun _ => Option (End × St)) (@Option.rec Func (fun _ => Option (End × St)) none (fun fn => @Option.rec (List V) (fun _ => Option (End × St)) none (fun l => some (.ret (tupOf l), s)) ((resultsJ P fn.results.toList).f s tm)) P.funcs[f]?) (fun ch => some (.pan ch, s)) u)
    (fun d ds _ => leaveOne r f tm ds u s d) ds
def stepK (r : R) : R := ⟨callK P hook r, roundF P r, leaveK P r⟩
def evK (n : Nat) : R := @Nat.rec (fun _ => R) R.none (fun _ ih => stepK P hook ih) n
end
end
end Go.Ev.K
