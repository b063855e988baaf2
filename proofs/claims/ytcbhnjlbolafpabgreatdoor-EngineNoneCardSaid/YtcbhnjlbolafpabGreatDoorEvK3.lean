/- The boxes answer as the evaluator: regions, code, functions, the whole. -/
import Derived.Test.YtcbhnjlbolafpabGreatDoorEvK2
import Derived.Test.YtcbhnjlbolafpabGreatDoorEvZB
set_option linter.unusedSimpArgs false
set_option linter.unusedVariables false
namespace Go.Ev.K
variable {P : Program}

theorem andThen_some (e : Ex) (a : Act) (s : St) (k : C) : andThen (some (e, a, s)) k = exK e k a s := by cases e <;> rfl
theorem andThen_fin (x : Res) : andThen x (fin .norm) = x := by
  cases x with
  | none => rfl
  | some p => obtain ⟨e, a, s⟩ := p; cases e <;> rfl
theorem resK_exK (x : Res) (k : C) : resK x (fun e a s => exK e k a s) none = andThen x k := by
  cases x with
  | none => rfl
  | some p => obtain ⟨e, a, s⟩ := p; cases e <;> rfl
theorem andThen_assoc (x : Res) (k l : C) : andThen (andThen x k) l = andThen x fun a s => andThen (k a s) l := by
  cases x with
  | none => rfl
  | some p => obtain ⟨e, a, s⟩ := p; cases e <;> rfl

theorem putJ_ok (d : Option Tmp) (a : Act) (v : V) (k : Act → Res) : (putJ d).f a v k = k (a.put d v) := by
  cases d with
  | none => rfl
  | some d =>
    show (putA d (tset Res TD d)).f a v k = k (a.put (some d) v)
    have h : ∀ g : Fn (T V TD) (V → (T V TD → Res) → Res), (putA d g).f a v k = @Bool.rec (fun _ => Res) (k a) (forceV v fun v => g.f a.tmps v fun tm => k ⟨tm, a.size, a.defers, a.rc⟩) (Nat.blt d a.size) := fun g => by cases g; cases a; rfl
    rw [h, forceV_ok, tset_ok]
    show _ = k (bif Nat.blt d a.size then ⟨T.set TD a.tmps d v, a.size, a.defers, a.rc⟩ else a)
    cases Nat.blt d a.size <;> rfl
theorem optE_ok (o : Option (End × St)) (a : Act) (dst : Option Tmp) (k : C) : optE o (fun v s => (putJ dst).f a v fun a => k a s) (fun ch s => fin (.pan ch) a s) = andThen (endO a dst o) k := by
  cases o with
  | none => rfl
  | some p =>
    obtain ⟨e, s⟩ := p
    cases e with
    | ret v => exact putJ_ok _ _ _ _
    | pan ch => rfl
theorem optE3_eq (o : Option (End × Option (List PE) × St)) (kv : KV) (kp : List PE → St → Res) : optE3 o kv kp = optE (dropRc o) kv kp := by
  cases o with
  | none => rfl
  | some p => obtain ⟨e, rc, s⟩ := p; rfl
theorem otherK_ok (o : Out) (r : R) (ro : Option Nat) (dst : Option Tmp) (a : Act) (s : St) (k : C) : otherK o r ro dst a s k fin = andThen (doOut r ro a dst s o) k := by
  cases o with
  | val v s' => rfl
  | dfr d =>
    show @Bool.rec (fun _ => Res) (k ((deferA a d).put dst undef) s) none ro.isSome = andThen (bif ro.isSome then none else some (.norm, (deferA a d).put dst undef, s)) k
    cases ro.isSome <;> rfl
  | rcv =>
    show @Bool.rec (fun _ => Res) (k (recoverA a dst a.rc) s) none ro.isSome = andThen (bif ro.isSome then none else some (.norm, recoverA a dst a.rc, s)) k
    cases ro.isSome <;> rfl
  | call f args =>
    show optE3 _ _ _ = _
    rw [optE3_eq]; exact optE_ok _ _ _ _
  | yield l args => exact optE_ok _ _ _ _
  | pan v => rfl
theorem opRun_ok (o : Op) (dst : Option Tmp) (r : R) (ro : Option Nat) (k : C) (a : Act) (s : St) : (opRun (xJ P o) (putJ dst) dst).run r ro k a s = andThen ((execA P a s o).bind (doOut r ro a dst s)) k := by
  have h : (opRun (xJ P o) (putJ dst) dst).run r ro k a s = (xJ P o).run a s (fun v s => (putJ dst).f a v fun a => k a s) fun o => otherK o r ro dst a s k fin := by cases xJ P o; cases putJ dst; rfl
  rw [h, xJ_ok, optO_ok]
  cases execA P a s o with
  | none => rfl
  | some out =>
    cases out with
    | val v s' => exact putJ_ok _ _ _ _
    | dfr d => show otherK (.dfr d) r ro dst a s k fin = andThen (doOut r ro a dst s (.dfr d)) k; exact otherK_ok _ _ _ _ _ _ _
    | rcv => show otherK .rcv r ro dst a s k fin = andThen (doOut r ro a dst s .rcv) k; exact otherK_ok _ _ _ _ _ _ _
    | call f l => show otherK (.call f l) r ro dst a s k fin = andThen (doOut r ro a dst s (.call f l)) k; exact otherK_ok _ _ _ _ _ _ _
    | yield f l => show otherK (.yield f l) r ro dst a s k fin = andThen (doOut r ro a dst s (.yield f l)) k; exact otherK_ok _ _ _ _ _ _ _
    | pan v => show otherK (.pan v) r ro dst a s k fin = andThen (doOut r ro a dst s (.pan v)) k; exact otherK_ok _ _ _ _ _ _ _
theorem opJ_ok (all : List Oper) (o : Oper) (r : R) (ro : Option Nat) (k : C) (a : Act) (s : St) : (opJ P all o).run r ro k a s = andThen (opF P r ro all o a s) k := by
  unfold opJ opF
  cases hg : o.guard with
  | none => exact opRun_ok _ _ _ _ _ _ _
  | some g =>
    have h : ∀ x : OB, (guarded all g (putJ o.dst) x).run r ro k a s = @Bool.rec (fun _ => Res) ((putJ o.dst).f a undef fun a => k a s) (x.run r ro k a s) (wantedA all a (some g)) := fun x => by cases x; cases putJ o.dst; rfl
    show (guarded all g (putJ o.dst) (opRun (xJ P o.op) (putJ o.dst) o.dst)).run r ro k a s = _
    rw [h]
    cases wantedA all a (some g) with
    | false => exact putJ_ok _ _ _ _
    | true => exact opRun_ok _ _ _ _ _ _ _
theorem thenB_ok (x y : OB) (r : R) (ro : Option Nat) (k : C) (a : Act) (s : St) : (thenB x y).run r ro k a s = x.run r ro (y.run r ro k) a s := by cases x; cases y; rfl
theorem opsJ_ok (all : List Oper) (r : R) (ro : Option Nat) (k : C) : ∀ (l : List Oper) (a : Act) (s : St), (opsJ P all l).run r ro k a s = andThen (opsF P r ro all l a s) k
  | [], a, s => rfl
  | o :: l, a, s => by
    show (thenB (opJ P all o) (opsJ P all l)).run r ro k a s = andThen (andThen (opF P r ro all o a s) fun a s => opsF P r ro all l a s) k
    rw [thenB_ok, opJ_ok, andThen_assoc]
    have : (opsJ P all l).run r ro k = fun a s => andThen (opsF P r ro all l a s) k := funext fun a => funext fun s => opsJ_ok all r ro k l a s
    rw [this]

/-! Regions that draw their order. -/
theorem beqK_ok (x y : V) : beqK x y = V.beq x y := by
  cases x with
  | int k n =>
    cases y with
    | int k' m =>
      show @Bool.rec (fun _ => Bool) false (intEqK n m) (kEqK k k') = V.beq (.int k n) (.int k' m)
      rw [intEqK_ok, V.beq]
      show _ = (kEqK k k' && intEq n m)
      cases kEqK k k' <;> rfl
    | _ => simp only [V.beq]; rfl
  | _ => rfl
theorem seesJ_ok (x : Ld) (s : St) : seesJ P x s = seesIt P x s := by
  unfold seesJ seesIt
  rw [xJ_ok, optO_ok]
  cases execA P x.act s x.op with
  | none => rfl
  | some out =>
    cases out with
    | val v s' =>
      show isSomeR (@Bool.rec (fun _ => Res) none (some (.norm, x.act, s')) (beqK v x.v)) = V.beq v x.v
      rw [beqK_ok]
      cases V.beq v x.v <;> rfl
    | _ => rfl
theorem ldJ_ok (bf : List Nat) (x : Ld) (s : St) (l : List Snap) : ldJ P bf x s l = ldOk P bf x s l := by
  obtain ⟨at_, op, act, v⟩ := x
  induction l with
  | nil => exact seesJ_ok _ s
  | cons c l ih =>
    obtain ⟨ca, cs⟩ := c
    show ldAt P bf at_ ⟨at_, op, act, v⟩ ⟨ca, cs⟩ (ldJ P bf ⟨at_, op, act, v⟩ s l) =
      ((bif bit bf at_ ca then true else seesIt P ⟨at_, op, act, v⟩ cs) && (bif bit bf ca at_ then true else ldOk P bf ⟨at_, op, act, v⟩ s l))
    rw [ih]
    show (@Bool.rec (fun _ => Bool) (@Bool.rec (fun _ => Bool) false (@Bool.rec (fun _ => Bool) (ldOk P bf ⟨at_, op, act, v⟩ s l) true (bit bf ca at_)) (seesJ P ⟨at_, op, act, v⟩ cs)) (@Bool.rec (fun _ => Bool) (ldOk P bf ⟨at_, op, act, v⟩ s l) true (bit bf ca at_)) (bit bf at_ ca)) = _
    rw [seesJ_ok]
    cases bit bf at_ ca <;> cases bit bf ca at_ <;> cases seesIt P ⟨at_, op, act, v⟩ cs <;> rfl
theorem chainK_ok (bf : List Nat) : ∀ l : List Snap, chainK bf l = chainOk bf l
  | [] => rfl
  | [s] => by obtain ⟨sa, ss⟩ := s; rfl
  | s :: t :: l => by
    obtain ⟨sa, ss⟩ := s
    obtain ⟨ta, ts⟩ := t
    show @Bool.rec (fun _ => Bool) false (chainK bf (⟨ta, ts⟩ :: l)) (bit bf sa ta) = (bit bf sa ta && chainOk bf (⟨ta, ts⟩ :: l))
    rw [chainK_ok bf (⟨ta, ts⟩ :: l)]; cases bit bf sa ta <;> rfl
theorem allLd_ok (bf : List Nat) (s : St) (sn : List Snap) : ∀ (l : List Ld), allLd P bf s sn l = l.all fun x => ldOk P bf x s sn
  | [] => rfl
  | x :: l => by
    show @Bool.rec (fun _ => Bool) false (allLd P bf s sn l) (ldJ P bf x s sn) = (ldOk P bf x s sn && l.all fun x => ldOk P bf x s sn)
    rw [ldJ_ok, allLd_ok bf s sn l]; cases ldOk P bf x s sn <;> rfl
def afterD (q : Option (Act × St × List Snap × List Ld)) (k : DC) : Res := q.bind fun q => k q.1 q.2.1 q.2.2.1 q.2.2.2
def normD (k : C) : Ex × Act × St → Res
  | (.norm, a, s) => k a s
  | _ => none
/-- the drawn form of an operation that gives no value -/
theorem otherD_ok (o : Out) (r : R) (ro : Option Nat) (dst : Option Tmp) (a : Act) (s : St) (k : C) : otherK o r ro dst a s k noEx = (doOut r ro a dst s o).bind (normD k) := by
  have hE : ∀ o : Option (End × St), optE o (fun v s => (putJ dst).f a v fun a => k a s) (fun ch s => noEx (.pan ch) a s) = (endO a dst o).bind (normD k) := by
    intro o
    cases o with
    | none => rfl
    | some p =>
      obtain ⟨e, s⟩ := p
      cases e with
      | ret v => exact putJ_ok _ _ _ _
      | pan ch => rfl
  cases o with
  | val v s' => rfl
  | dfr d =>
    show @Bool.rec (fun _ => Res) (k ((deferA a d).put dst undef) s) none ro.isSome = (bif ro.isSome then none else some (Ex.norm, (deferA a d).put dst undef, s)).bind (normD k)
    cases ro.isSome <;> rfl
  | rcv =>
    show @Bool.rec (fun _ => Res) (k (recoverA a dst a.rc) s) none ro.isSome = (bif ro.isSome then none else some (Ex.norm, recoverA a dst a.rc, s)).bind (normD k)
    cases ro.isSome <;> rfl
  | call f args =>
    show optE3 _ _ _ = _
    rw [optE3_eq]; exact hE _
  | yield l args => exact hE _
  | pan v => rfl
theorem rowJ_ok (all : List Oper) (r : R) (ro : Option Nat) (k : DC) : ∀ (l : List Oper) (i : Nat) (a : Act) (s : St) (sn : List Snap) (ld : List Ld),
    (rowsJ P all l i).run r ro k a s sn ld = afterD (drawF P r ro all l i sn ld a s) k
  | [], i, a, s, sn, ld => rfl
  | o :: l, i, a, s, sn, ld => by
    have ih := rowJ_ok all r ro k l (Nat.succ i)
    show (rowJ P all o i (rowsJ P all l (Nat.succ i))).run r ro k a s sn ld = afterD (drawF P r ro all (o :: l) i sn ld a s) k
    generalize rowsJ P all l (Nat.succ i) = y at ih
    have hsn : (snJ (isChain P o.op) i).f s sn = bif isChain P o.op then ⟨i, s⟩ :: sn else sn := by cases isChain P o.op <;> rfl
    have hld : ∀ v s', (ldB (readsO P o.op && !isChain P o.op) i o.op).f a v ld = addLd P i o a (.val v s') ld := by
      intro v s'
      unfold addLd
      cases readsO P o.op && !isChain P o.op <;> rfl
    have hrow : (rowRun (xJ P o.op) (putJ o.dst) o.dst (snJ (isChain P o.op) i) (ldB (readsO P o.op && !isChain P o.op) i o.op) y).run r ro k a s sn ld =
        afterD ((execA P a s o.op).bind fun out => (doOut r ro a o.dst s out).bind fun res => match res with
          | (.norm, a', s') => drawF P r ro all l (Nat.succ i) (bif isChain P o.op then ⟨i, s⟩ :: sn else sn) (addLd P i o a out ld) a' s'
          | _ => none) k := by
      have h : (rowRun (xJ P o.op) (putJ o.dst) o.dst (snJ (isChain P o.op) i) (ldB (readsO P o.op && !isChain P o.op) i o.op) y).run r ro k a s sn ld =
          (xJ P o.op).run a s (fun v s' => (putJ o.dst).f a v fun a' => y.run r ro k a' s' ((snJ (isChain P o.op) i).f s sn) ((ldB (readsO P o.op && !isChain P o.op) i o.op).f a v ld))
            fun out => otherK out r ro o.dst a s (fun a' s' => y.run r ro k a' s' ((snJ (isChain P o.op) i).f s sn) ld) noEx := by
        cases xJ P o.op; cases putJ o.dst; cases snJ (isChain P o.op) i; cases ldB (readsO P o.op && !isChain P o.op) i o.op; cases y; rfl
      rw [h, xJ_ok, optO_ok]
      cases execA P a s o.op with
      | none => rfl
      | some out =>
        have other : (∀ v s', out ≠ .val v s') → otherK out r ro o.dst a s (fun a' s' => y.run r ro k a' s' ((snJ (isChain P o.op) i).f s sn) ld) noEx =
            afterD ((some out).bind fun out => (doOut r ro a o.dst s out).bind fun res => match res with
              | (.norm, a', s') => drawF P r ro all l (Nat.succ i) (bif isChain P o.op then ⟨i, s⟩ :: sn else sn) (addLd P i o a out ld) a' s'
              | _ => none) k := by
          intro hne
          rw [otherD_ok]
          have hl : addLd P i o a out ld = ld := by
            unfold addLd
            cases readsO P o.op && !isChain P o.op with
            | false => rfl
            | true => cases out <;> first | rfl | exact absurd rfl (hne _ _)
          simp only [Option.bind_some, hl]
          cases doOut r ro a o.dst s out with
          | none => rfl
          | some res =>
            obtain ⟨e, a', s'⟩ := res
            cases e with
            | norm => show y.run r ro k a' s' _ ld = _; rw [ih, hsn]; rfl
            | _ => rfl
        cases out with
        | val v s' =>
          show (putJ o.dst).f a v _ = _
          rw [putJ_ok, ih, hsn, hld v s']
          rfl
        | _ => exact other (fun _ _ e => by cases e)
    unfold rowJ drawF
    cases hg : o.guard with
    | none => exact hrow
    | some g =>
      have h : ∀ x : DB, (guardedD all g (putJ o.dst) y x).run r ro k a s sn ld = @Bool.rec (fun _ => Res) ((putJ o.dst).f a undef fun a => y.run r ro k a s sn ld) (x.run r ro k a s sn ld) (wantedA all a (some g)) := fun x => by cases x; cases putJ o.dst; cases y; rfl
      show (guardedD all g (putJ o.dst) y (rowRun (xJ P o.op) (putJ o.dst) o.dst (snJ (isChain P o.op) i) (ldB (readsO P o.op && !isChain P o.op) i o.op) y)).run r ro k a s sn ld = _
      rw [h]
      cases wantedA all a (some g) with
      | false =>
        show (putJ o.dst).f a undef _ = _
        rw [putJ_ok, ih]; rfl
      | true => exact hrow
theorem drawEnd_ok (all : List Oper) (n : Nat) (q : Option (Act × St × List Snap × List Ld)) : afterD q (drawEnd P all (bfL all) n) = drawn P all n (bfL all) q := by
  cases q with
  | none => rfl
  | some q =>
    obtain ⟨a, s, sn, ld⟩ := q
    show drawEnd P all (bfL all) n a s sn ld = bif drawOk all (bfL all) n && chainOk (bfL all) sn && ld.all (fun x => ldOk P (bfL all) x s sn.reverse) then some (.norm, a, s) else none
    unfold drawEnd
    rw [allLd_ok, chainK_ok]
    cases drawOk all (bfL all) n <;> cases chainOk (bfL all) sn <;> cases ld.all (fun x => ldOk P (bfL all) x s sn.reverse) <;> rfl
theorem drawJ_ok (all : List Oper) (r : R) (ro : Option Nat) (k : C) (a : Act) (s : St) : (drawJ P all).run r ro k a s = andThen (drawnF P r ro all a s) k := by
  unfold drawJ drawnF
  have h : (drawGo P all (bfL all) (rowsJ P all all 0)).run r ro k a s =
      resK ((rowsJ P all all 0).run r ro (drawEnd P all (bfL all) a.size) a s [] []) (fun e a s => exK e k a s) (resK ((panAt P r ro all all 0 a s).bind (panGo P r ro all a s)) (fun e a s => exK e k a s) none) := by cases rowsJ P all all 0; rfl
  rw [h, rowJ_ok, drawEnd_ok, resK_exK]
  cases drawn P all a.size (bfL all) (drawF P r ro all all 0 [] [] a s) with
  | none => rfl
  | some q => obtain ⟨e, a, s⟩ := q; exact (andThen_some e a s k).symm

/-! Code. -/
theorem loopJ_ok {x : R → Option Nat → C → Act → St → Res} {f : Act → St → Res} {r : R} {ro : Option Nat} (hx : ∀ k a s, x r ro k a s = andThen (f a s) k) (k : C) : ∀ (n : Nat) (a : Act) (s : St), loopJ x n r ro k a s = andThen (loopF f n a s) k
  | 0, _, _ => rfl
  | n + 1, a, s => by
    show x r ro (loopJ x n r ro k) a s = andThen (andThen (f a s) (loopF f n)) k
    rw [hx, andThen_assoc]
    have : loopJ x n r ro k = fun a s => andThen (loopF f n a s) k := funext fun a => funext fun s => loopJ_ok hx k n a s
    rw [this]
theorem loopB_ok (x : OB) (r : R) (ro : Option Nat) (k : C) (a : Act) (s : St) : (loopB x).run r ro k a s = loopJ x.run LN r ro k a s := by
  unfold loopB
  generalize LN = n
  cases x; rfl
theorem codeJ_ok (r : R) (ro : Option Nat) (c : Code) : ∀ (k : C) (a : Act) (s : St), (codeJ P c).run r ro k a s = andThen (codeF P r ro c a s) k := by
  induction c with
  | skip => intro k a s; rfl
  | label _ => intro k a s; rfl
  | ret => intro k a s; rfl
  | exit _ => intro k a s; rfl
  | goto _ => intro k a s; rfl
  | refuse _ => intro k a s; rfl
  | seq x y ihx ihy =>
    intro k a s
    show (thenB (codeJ P x) (codeJ P y)).run r ro k a s = andThen (andThen (codeF P r ro x a s) (codeF P r ro y)) k
    rw [thenB_ok, ihx, andThen_assoc]
    have : (codeJ P y).run r ro k = fun a s => andThen (codeF P r ro y a s) k := funext fun a => funext fun s => ihy k a s
    rw [this]
  | cond c x y ihx ihy =>
    intro k a s
    have h : (condJ (opdJ c) (codeJ P x) (codeJ P y)).run r ro k a s = (opdJ c).ev a fun v => vBool v fun b => @Bool.rec (fun _ => Res) ((codeJ P y).run r ro k a s) ((codeJ P x).run r ro k a s) b := by cases opdJ c; cases codeJ P x; cases codeJ P y; rfl
    show (condJ (opdJ c) (codeJ P x) (codeJ P y)).run r ro k a s = andThen (((a.eval c).bind asBoolV).bind fun b => bif b then codeF P r ro x a s else codeF P r ro y a s) k
    rw [h, opdJ_ok]
    cases a.eval c with
    | none => rfl
    | some v =>
      simp only [Option.bind_some]
      rw [vBool_ok]
      cases asBoolV v with
      | none => rfl
      | some b => cases b <;> first | exact ihx k a s | exact ihy k a s
  | block id x ih =>
    intro k a s
    have h : (blockJ id (codeJ P x)).run r ro k a s = resK ((codeJ P x).run r ro (fin .norm) a s) (fun e a s => blockK id e k a s) none := by cases codeJ P x; rfl
    show (blockJ id (codeJ P x)).run r ro k a s = andThen (blockX id (codeF P r ro x a s)) k
    rw [h, ih, andThen_fin]
    cases codeF P r ro x a s with
    | none => rfl
    | some q =>
      obtain ⟨e, a, s⟩ := q
      cases e with
      | exit i =>
        show @Bool.rec (fun _ => Res) (fin (.exit i) a s) (k a s) (Nat.beq i id) = andThen (bif Nat.beq i id then some (.norm, a, s) else some (.exit i, a, s)) k
        cases Nat.beq i id <;> rfl
      | _ => rfl
  | loop x ih =>
    intro k a s
    exact (loopB_ok (codeJ P x) r ro k a s).trans (loopJ_ok (fun k a s => ih k a s) k LN a s)
  | scope x ih => intro k a s; exact ih k a s
  | region id ops d =>
    intro k a s
    cases d with
    | false => exact opsJ_ok _ _ _ _ _ _ _
    | true => exact drawJ_ok _ _ _ _ _ _
  | rangeFunc f ps asg body _ _ =>
    intro k a s
    exact resK_exK _ _

/-! Functions. -/
theorem listK_ok : ∀ (l : List V) (i : Nat) (t : T V TD) (k : T V TD → CR), listK l i t k = k (listT l i t)
  | [], _, _, _ => rfl
  | v :: l, i, t, k => by
    show (forceVC v fun v => (tset CR TD i).f t v fun t => listK l (Nat.succ i) t k) = k (listT l (Nat.succ i) (T.set TD t i v))
    rw [forceVC_ok, tset_ok, listK_ok l]
theorem forceNC_ok (n : Nat) (k : Nat → CR) : forceNC n k = k n := by cases n <;> rfl
theorem rcC_ok (rc : Option (List PE)) (x : Option (End × St)) : rcC rc x = withRc rc x := by
  cases x with
  | none => rfl
  | some p => obtain ⟨e, s⟩ := p; rfl
theorem leavingK_ok (r : R) (f : FuncId) (q : Ex × Act × St) : leavingK r f q.1 q.2.1 q.2.2 = leaving r f q := by
  obtain ⟨e, a, s⟩ := q
  cases e with
  | exit _ => rfl
  | _ => exact rcC_ok _ _
theorem fnJ_ok (f : FuncId) (r : R) (args : List V) (rc : Option (List PE)) (s : St) : (fnJ P f).run r args rc s = enterF P r f args rc s := by
  unfold fnJ enterF
  cases P.funcs[f]? with
  | none => rfl
  | some fn =>
    simp only [Option.bind_some]
    cases hb : fn.body with
    | none =>
      show (@Option.rec Code (fun _ => FB) ⟨fun _ _ _ _ => none⟩ (fun c => fnGo f fn (codeJ P c)) fn.body).run r args rc s = _
      rw [hb]; rfl
    | some c =>
      have h : (fnGo f fn (codeJ P c)).run r args rc s = forceNC (slots fn args) fun n => @Bool.rec (fun _ => CR) none (listK args 0 (.nil TD) fun t => resC ((codeJ P c).run r none (fin .norm) ⟨t, n, [], rc⟩ s) fun e a s => leavingK r f e a s) (Nat.ble n TN) := by cases codeJ P c; rfl
      show (@Option.rec Code (fun _ => FB) ⟨fun _ _ _ _ => none⟩ (fun c => fnGo f fn (codeJ P c)) fn.body).run r args rc s = _
      rw [hb]
      refine h.trans ?_
      rw [forceNC_ok, listK_ok, codeJ_ok, andThen_fin]
      simp only [Option.bind_some]
      cases Nat.ble (slots fn args) TN with
      | false => rfl
      | true =>
        show resC (codeF P r none c _ s) _ = (codeF P r none c _ s).bind (leaving r f)
        cases codeF P r none c ⟨listT args 0 (.nil TD), slots fn args, [], rc⟩ s with
        | none => rfl
        | some q => obtain ⟨e, a, s⟩ := q; exact leavingK_ok r f (e, a, s)
variable {hook : Hook}
theorem callK_ok (r : R) : callK P hook r = callF P hook r := by
  funext f args rc s
  unfold callK callF
  cases hook f args s with
  | none => exact fnJ_ok f r args rc s
  | some res =>
    show hookK rc res = bif rc.isSome then none else res.map fun q => (.ret q.1, rc, q.2)
    unfold hookK
    cases rc.isSome with
    | true => rfl
    | false => cases res <;> rfl
theorem rvTmp_ok (g : Fn (T V TD) (Option V)) (s : St) (tm : T V TD) : (rvTmp g).f s tm = some (orU (g.f tm)) := by cases g; rfl
theorem rvJ_ok (x : ResultVar) (s : St) (tm : T V TD) : (rvJ P x).f s tm = resultOne P s tm x := by
  cases x with
  | tmp t =>
    show (rvTmp (tget TD t)).f s tm = _
    rw [rvTmp_ok, tget_ok, orU_ok]; rfl
  | cell a t => rfl
theorem resultsJ_ok (s : St) (tm : T V TD) : ∀ l : List ResultVar, (resultsJ P l).f s tm = resultsV P s tm l
  | [] => rfl
  | x :: l => by
    have h : ∀ (x : RvB) (l : RsB), (consRs x l).f s tm = @Option.rec V (fun _ => Option (List V)) none (fun v => @Option.rec (List V) (fun _ => Option (List V)) none (fun w => some (v :: w)) (l.f s tm)) (x.f s tm) := fun x l => by cases x; cases l; rfl
    show (consRs (rvJ P x) (resultsJ P l)).f s tm = (resultOne P s tm x).bind fun v => (resultsV P s tm l).map fun w => v :: w
    rw [h, rvJ_ok, resultsJ_ok s tm l]
    cases resultOne P s tm x with
    | none => rfl
    | some v => cases resultsV P s tm l <;> rfl
theorem leaveK_ok (r : R) : leaveK P r = leaveF P r := by
  funext f tm ds u s
  unfold leaveF
  cases ds with
  | cons d ds => rfl
  | nil =>
    cases u with
    | some ch => rfl
    | none =>
      show (@Option.rec Func (fun _ => Option (End × St)) none (fun fn => @Option.rec (List V) (fun _ => Option (End × St)) none (fun l => some (.ret (tupOf l), s)) ((resultsJ P fn.results.toList).f s tm)) P.funcs[f]?) = _
      simp only
      cases P.funcs[f]? with
      | none => rfl
      | some fn =>
        simp only [Option.bind_some]
        rw [resultsJ_ok]
        cases resultsV P s tm fn.results.toList <;> rfl
/-- THE WHOLE -/
theorem evK_ok : ∀ n, evK P hook n = ev P hook n
  | 0 => rfl
  | n + 1 => by
    show stepK P hook (evK P hook n) = step P hook (ev P hook n)
    rw [evK_ok n]
    unfold stepK step
    rw [callK_ok, leaveK_ok]
end Go.Ev.K
