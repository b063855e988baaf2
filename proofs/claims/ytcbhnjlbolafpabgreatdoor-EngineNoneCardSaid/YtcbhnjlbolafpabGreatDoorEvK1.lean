/- The boxes answer as the evaluator: values, cells, operations. -/
import Derived.Test.YtcbhnjlbolafpabGreatDoorEvK0
import Derived.Test.YtcbhnjlbolafpabGreatDoorEvB
set_option linter.unusedSimpArgs false
set_option linter.unusedVariables false
namespace Go.Ev.K

theorem sel4_lt {α β : Type} (F : α → β) (n : Nat) (x0 x1 x2 x3 : α) : F (sel4 n x0 x1 x2 x3) = bif Nat.beq n 0 then F x0 else bif Nat.beq n 1 then F x1 else bif Nat.beq n 2 then F x2 else F x3 := by
  unfold sel4
  cases Nat.beq n 0 <;> cases Nat.beq n 1 <;> cases Nat.beq n 2 <;> rfl
theorem pj_ok {α : Type} (n : Nat) (x : Q α) : (pj n).f x = x.get n := sel4_lt (fun g : Fn (Q α) α => g.f x) n _ _ _ _
theorem up_ok {α β : Type} (n : Nat) (x : Q α) (g : α → (α → β) → β) (h : α → α) (hg : ∀ y k, g y k = k (h y)) (k : Q α → β) : (up n).f x g k = k (x.upd n h) := by
  cases x with
  | mk a b c d =>
    have e := sel4_lt (fun u : Fn (Q α) ((α → (α → β) → β) → (Q α → β) → β) => u.f ⟨a, b, c, d⟩ g k) n ⟨up0⟩ ⟨up1⟩ ⟨up2⟩ ⟨up3⟩
    refine Eq.trans e ?_
    show (bif Nat.beq n 0 then g a (fun a => k ⟨a, b, c, d⟩) else bif Nat.beq n 1 then g b (fun b => k ⟨a, b, c, d⟩) else bif Nat.beq n 2 then g c (fun c => k ⟨a, b, c, d⟩) else g d (fun d => k ⟨a, b, c, d⟩)) = k (Q.upd ⟨a, b, c, d⟩ n h)
    simp only [hg]
    unfold Q.upd
    cases Nat.beq n 0 <;> cases Nat.beq n 1 <;> cases Nat.beq n 2 <;> rfl
theorem cmp_ok {α β γ : Type} (g : Fn β γ) (p : Fn α β) (x : α) : (cmp g p).f x = g.f (p.f x) := by cases g; cases p; rfl
theorem cmu_ok {α β γ δ : Type} (s : Fn β (γ → (β → δ) → δ)) (u : Fn α ((β → (β → δ) → δ) → (α → δ) → δ)) (x : α) (v : γ) (k : α → δ) : (cmu s u).f x v k = u.f x (fun y k => s.f y v k) k := by cases s; cases u; rfl
theorem getB_ok {α : Type} : ∀ (d n : Nat) (x : PT α d), (getB d n).f x = PT.get d x n
  | 0, _, _ => rfl
  | d + 1, n, x => by
    have h := fun y : Q (PT α d) => (cmp_ok (getB d (Nat.div n 4)) (pj (α := PT α d) (Nat.mod n 4)) y).trans ((getB_ok d _ _).trans (congrArg (fun z => PT.get d z (Nat.div n 4)) (pj_ok (Nat.mod n 4) y)))
    exact h x
theorem setB_ok {α δ : Type} : ∀ (d n : Nat) (x : PT α d) (v : α) (k : PT α d → δ), (setB δ d n).f x v k = k (PT.set d x n v)
  | 0, _, _, _, _ => rfl
  | d + 1, n, x, v, k => by
    have h := fun y : Q (PT α d) => fun k : Q (PT α d) → δ => (cmu_ok (setB δ d (Nat.div n 4)) (up (α := PT α d) (Nat.mod n 4)) y v k).trans (up_ok (Nat.mod n 4) y (fun y k => (setB δ d (Nat.div n 4)).f y v k) (fun y => PT.set d y (Nat.div n 4) v) (fun y k => setB_ok d _ y v k) k)
    exact h x k
theorem tget_ok {α : Type} (d n : Nat) (t : T α d) : (tget d n).f t = T.get d t n := by
  unfold tget T.get
  cases Nat.blt n (4 ^ d) with
  | true => exact getB_ok d n t
  | false => rfl
theorem tset_ok {α δ : Type} (d n : Nat) (t : T α d) (v : α) (k : T α d → δ) : (tset δ d n).f t v k = k (T.set d t n v) := by
  unfold tset T.set
  cases Nat.blt n (4 ^ d) with
  | true =>
    have h : ∀ g : Fn (PT (Option α) d) (Option α → (PT (Option α) d → δ) → δ), (@Fn.rec (PT (Option α) d) (Option α → (PT (Option α) d → δ) → δ) (fun _ => Fn (T α d) (α → (T α d → δ) → δ)) (fun s => ⟨fun x v k => s x (some v) k⟩) g).f t v k = g.f t (some v) k := fun g => by cases g; rfl
    exact (h _).trans (setB_ok d n t (some v) k)
  | false => rfl

theorem forceN_ok (n : Nat) (k : Nat → Res) : forceN n k = k n := by cases n <;> rfl
theorem forceI_ok (n : Int) (k : Int → Res) : forceI n k = k n := by
  cases n with
  | ofNat m => exact forceN_ok m _
  | negSucc m => exact forceN_ok m _
theorem optV_ok (o : Option V) (k : V → Res) : optV o k = o.bind k := by cases o <;> rfl
theorem optVS_ok (o : Option (V × St)) (k : KV) : optVS o k = o.bind fun p => k p.1 p.2 := by cases o <;> rfl
theorem optS_ok (o : Option St) (k : St → Res) : optS o k = o.bind k := by cases o <;> rfl
theorem optO_ok (o : Option Out) (kv : KV) (ko : Out → Res) : optO o kv ko = o.bind fun o => outK o kv ko := by cases o <;> rfl

/-! Operands. -/
theorem orU_ok (o : Option V) : orU o = o.getD undef := by cases o <;> rfl
theorem tmpB_ok (g : Fn (T V TD) (Option V)) (a : Act) (k : V → Res) : (tmpB g).ev a k = k (orU (g.f a.tmps)) := by cases g; rfl
theorem opdJ_ok (x : Operand) (a : Act) (k : V → Res) : (opdJ x).ev a k = (a.eval x).bind k := by
  cases x with
  | tmp t =>
    show (tmpB (tget TD t)).ev a k = k (a.get t)
    rw [tmpB_ok, tget_ok, orU_ok]; rfl
  | const v =>
    show (conB (ofValue v)).ev a k = (ofValue v).bind k
    cases ofValue v <;> rfl
  | global g => rfl
  | func f => rfl
theorem consB_ok (x : OpB) (l : LB) (a : Act) (k : List V → Res) : (consB x l).ev a k = x.ev a fun v => l.ev a fun w => k (v :: w) := by cases x; cases l; rfl
theorem evalsJ_ok (a : Act) : ∀ (l : List Operand) (k : List V → Res), (evalsJ l).ev a k = (evals a l).bind k
  | [], k => rfl
  | x :: l, k => by
    show (consB (opdJ x) (evalsJ l)).ev a k = _
    rw [consB_ok, opdJ_ok, evals]
    cases a.eval x with
    | none => rfl
    | some v =>
      simp only [Option.bind_some]
      rw [evalsJ_ok a l]
      cases evals a l <;> rfl
theorem consPB_ok (i : Nat) (x : OpB) (l : PLB) (a : Act) (k : List (Nat × V) → Res) : (consPB i x l).ev a k = x.ev a fun v => l.ev a fun w => k ((i, v) :: w) := by cases x; cases l; rfl
theorem evalPJ_ok (a : Act) : ∀ (l : List (Nat × Operand)) (k : List (Nat × V) → Res), (evalPJ l).ev a k = (evalP a l).bind k
  | [], k => rfl
  | (i, x) :: l, k => by
    show (consPB i (opdJ x) (evalPJ l)).ev a k = _
    rw [consPB_ok, opdJ_ok, evalP]
    cases a.eval x with
    | none => rfl
    | some v =>
      simp only [Option.bind_some]
      rw [evalPJ_ok a l]
      cases evalP a l <;> rfl
theorem someB_ok (x : OpB) (a : Act) (k : Option V → Res) : (someB x).ev a k = x.ev a fun v => k (some v) := by cases x; rfl
theorem evalOJ_ok (o : Option Operand) (a : Act) (k : Option V → Res) : (evalOJ o).ev a k = (evalO a o).bind k := by
  cases o with
  | none => rfl
  | some x =>
    show (someB (opdJ x)).ev a k = _
    rw [someB_ok, opdJ_ok, evalO]
    cases a.eval x <;> rfl

/-! What a value is. -/
theorem vPtr_ok (v : V) (k : Nat → Nat → Res) : vPtr v k = (asPtr v).bind fun p => k p.1 p.2 := by cases v <;> rfl
theorem vBool_ok (v : V) (k : Bool → Res) : vBool v k = (asBoolV v).bind k := by cases v <;> rfl
theorem iNat_ok (n : Int) (κ : IntKind) (k : Nat → Res) : iNat n k = (natOf (.int κ n)).bind k := by cases n <;> rfl
theorem vNat_ok (v : V) (k : Nat → Res) : vNat v k = (natOf v).bind k := by
  cases v with
  | int κ n => exact iNat_ok n κ k
  | _ => rfl
theorem vTup_ok (v : V) (k : List V → Res) : vTup v k = (asTup v).bind k := by cases v <;> rfl
theorem vOne_ok (v : V) : vOne v = v.one := by cases v <;> rfl

/-! Cells. -/
theorem nthD_ok : ∀ (o : Nat) (l : List V), nthD o l = (l.drop o).head?
  | 0, l => by cases l <;> rfl
  | o + 1, l => by
    cases l with
    | nil => rfl
    | cons x l => exact nthD_ok o l
theorem nthK_ok (o : Nat) (l : List V) (k : V → Res) : nthK o l k = ((l.drop o).head?).bind k := by
  unfold nthK; rw [optV_ok, nthD_ok]
theorem takeK_ok : ∀ (n : Nat) (l : List V) (k : List V → Res), takeK n l k = (takeN n l).bind k
  | 0, l, k => rfl
  | n + 1, l, k => by
    cases l with
    | nil => rfl
    | cons x l =>
      show takeK n l (consK x k) = ((takeN n l).map fun m => x :: m).bind k
      rw [takeK_ok n l]; cases takeN n l <;> rfl
theorem dropK_ok : ∀ (o : Nat) (l : List V) (k : List V → Res), dropK o l k = k (l.drop o)
  | 0, l, k => rfl
  | o + 1, l, k => by
    cases l with
    | nil => rfl
    | cons x l => exact dropK_ok o l k
theorem overK_ok : ∀ (vs l : List V) (k : List V → Res), overK vs l k = (overlay l vs).bind k
  | [], l, k => by cases l <;> rfl
  | v :: vs, l, k => by
    cases l with
    | nil => rfl
    | cons x l =>
      show @Bool.rec (fun _ => Res) none (overK vs l (consK v k)) (vOne v) = (bif v.one then (overlay l vs).map fun m => v :: m else none).bind k
      rw [vOne_ok]
      cases v.one with
      | false => rfl
      | true =>
        show overK vs l (consK v k) = ((overlay l vs).map fun m => v :: m).bind k
        rw [overK_ok vs l]; cases overlay l vs <;> rfl
theorem putK_ok : ∀ (o : Nat) (l vs : List V) (k : List V → Res), putK o l vs k = (putAt o l vs).bind k
  | 0, l, vs, k => by rw [putAt]; exact overK_ok vs l k
  | o + 1, l, vs, k => by
    cases l with
    | nil => rfl
    | cons x l =>
      show putK o l vs (consK x k) = ((putAt o l vs).map fun m => x :: m).bind k
      rw [putK_ok o l]; cases putAt o l vs <;> rfl
theorem lenK_ok : ∀ (l : List V) (n : Nat) (k : Nat → Res), lenK l n k = k (n + l.length)
  | [], n, k => rfl
  | x :: l, n, k => by
    show lenK l (Nat.succ n) k = _
    rw [lenK_ok l]; congr 1; simp only [List.length_cons, Nat.succ_eq_add_one]; omega
theorem lenBK_ok : ∀ (l : List UInt8) (n : Nat) (k : Nat → Res), lenBK l n k = k (n + l.length)
  | [], n, k => rfl
  | x :: l, n, k => by
    show lenBK l (Nat.succ n) k = _
    rw [lenBK_ok l]; congr 1; simp only [List.length_cons, Nat.succ_eq_add_one]; omega
theorem allOneK_ok : ∀ (l : List V), allOneK l = allOne l
  | [] => rfl
  | v :: l => by
    show @Bool.rec (fun _ => Bool) false (allOneK l) (vOne v) = (v.one && allOne l)
    rw [vOne_ok, allOneK_ok l]; cases v.one <;> rfl

/-! Blocks. -/
theorem optB_ok (o : Option Blk) (k : Blk → Res) : optB o k = o.bind k := by cases o <;> rfl
theorem hgetK_ok (s : St) (b : Nat) (k : Blk → Res) : hgetK s b k = (s.get b).bind k := by
  unfold hgetK; rw [optB_ok, tget_ok]; rfl
theorem rowK_ok (s : St) (b : Nat) (k : List V → Res) : rowK s b k = (s.row b).bind k := by
  unfold rowK St.row; rw [hgetK_ok]
  cases s.get b with
  | none => rfl
  | some x => cases x <;> rfl
theorem setK_ok (s : St) (b : Nat) (x : Blk) (k : St → Res) : setK s b x k = k (s.set b x) := by
  cases s with
  | mk h n => exact tset_ok HD b h x fun h => k ⟨h, n⟩
theorem newGo_ok (n : Nat) (h : T Blk HD) (x : Blk) (k : Nat → St → Res) : newGo n h x k = (St.new ⟨h, n⟩ x).bind fun p => k p.1 p.2 := by
  unfold newGo St.new
  rw [tset_ok]
  cases Nat.blt n HN <;> rfl
theorem newK_ok (s : St) (x : Blk) (k : Nat → St → Res) : newK s x k = (s.new x).bind fun p => k p.1 p.2 := by
  cases s
  show (forceN _ fun n => newGo n _ x k) = _
  rw [forceN_ok, newGo_ok]
theorem wrK_ok (s : St) (b o : Nat) (vs : List V) (k : St → Res) : wrK s b o vs k = (s.write b o vs).bind k := by
  unfold wrK St.write
  rw [hgetK_ok]
  cases s.get b with
  | none => rfl
  | some y =>
    cases y with
    | cells l x e =>
      show putK o l vs (wrGo s b x e k) = _
      rw [putK_ok]
      simp only [putBlk, Option.bind_some]
      cases putAt o l vs with
      | none => rfl
      | some m =>
        exact setK_ok s b (.cells m x e) k
    | _ => rfl
theorem vCells_ok (v : V) (k : List V → Res) : vCells v k = k (cellsOf v) := by cases v <;> rfl
theorem forceV_ok (v : V) (k : V → Res) : forceV v k = k v := by cases v <;> rfl
theorem forceVC_ok (v : V) (k : V → Option (End × Option (List PE) × St)) : forceVC v k = k v := by cases v <;> rfl
theorem isCellsK_ok (n : Nat) (l : List V) (k : List V → Res) : isCellsK n l k = bif Nat.beq l.length n then k l else none := by
  unfold isCellsK; rw [lenK_ok, Nat.zero_add]; cases Nat.beq l.length n <;> rfl
end Go.Ev.K
