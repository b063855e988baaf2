/- The boxes answer as the evaluator: each operation. -/
import Derived.Test.YtcbhnjlbolafpabGreatDoorEvK1
set_option linter.unusedSimpArgs false
set_option linter.unusedVariables false
namespace Go.Ev.K

def lexp (k : IntKind) : Nat := match k with | .i8 => 7 | .i16 => 15 | .i32 => 31 | .i64 => 63 | .u8 => 8 | .u16 => 16 | .u32 => 32 | .u64 => 64
theorem limit_pow (k : IntKind) : limit k = 2 ^ lexp k := by cases k <;> rfl
theorem lexp_le (k : IntKind) : lexp k ≤ k.bits := by cases k <;> decide
theorem bv_small (k : IntKind) {m : Nat} (h : m < limit k) : (BitVec.ofInt k.bits (Int.ofNat m)).toNat = m := by
  have h2 : m < 2 ^ k.bits := Nat.lt_of_lt_of_le (by rw [limit_pow] at h; exact h) (Nat.pow_le_pow_right (by decide) (lexp_le k))
  rw [show Int.ofNat m = ((m : Nat) : Int) from rfl, BitVec.ofInt_natCast, BitVec.toNat_ofNat, Nat.mod_eq_of_lt h2]
theorem wrap_lt (k : IntKind) (m : Nat) (h : m < limit k) : k.wrap (Int.ofNat m) = Int.ofNat m := by
  cases k <;> simp only [limit] at h <;> simp only [IntKind.wrap, IntKind.bits, IntKind.signed, Int.ofNat_eq_natCast]
  all_goals
    simp
    omega
theorem and_fast (k : IntKind) {m n : Nat} (hm : m < limit k) (hn : n < limit k) : intOpV .and k (Int.ofNat m) (Int.ofNat n) = some (.int k (.ofNat (Nat.land m n))) := by
  have : Nat.land m n < limit k := by rw [limit_pow] at *; exact Nat.and_lt_two_pow m hn
  show some (V.int k (k.wrap (Int.ofNat (BitVec.ofInt k.bits (Int.ofNat m) &&& BitVec.ofInt k.bits (Int.ofNat n)).toNat))) = _
  rw [BitVec.toNat_and, bv_small k hm, bv_small k hn]
  exact congrArg (fun z => some (V.int k z)) (wrap_lt k _ this)
theorem or_fast (k : IntKind) {m n : Nat} (hm : m < limit k) (hn : n < limit k) : intOpV .or k (Int.ofNat m) (Int.ofNat n) = some (.int k (.ofNat (Nat.lor m n))) := by
  have : Nat.lor m n < limit k := by rw [limit_pow] at *; exact Nat.or_lt_two_pow hm hn
  show some (V.int k (k.wrap (Int.ofNat (BitVec.ofInt k.bits (Int.ofNat m) ||| BitVec.ofInt k.bits (Int.ofNat n)).toNat))) = _
  rw [BitVec.toNat_or, bv_small k hm, bv_small k hn]
  exact congrArg (fun z => some (V.int k z)) (wrap_lt k _ this)
theorem xor_fast (k : IntKind) {m n : Nat} (hm : m < limit k) (hn : n < limit k) : intOpV .xor k (Int.ofNat m) (Int.ofNat n) = some (.int k (.ofNat (Nat.xor m n))) := by
  have : Nat.xor m n < limit k := by rw [limit_pow] at *; exact Nat.xor_lt_two_pow hm hn
  show some (V.int k (k.wrap (Int.ofNat (BitVec.ofInt k.bits (Int.ofNat m) ^^^ BitVec.ofInt k.bits (Int.ofNat n)).toNat))) = _
  rw [BitVec.toNat_xor, bv_small k hm, bv_small k hn]
  exact congrArg (fun z => some (V.int k z)) (wrap_lt k _ this)
theorem wrap_u (k : IntKind) (hu : k.signed = false) (m : Nat) : k.wrap (Int.ofNat m) = Int.ofNat (Nat.mod m (limit k)) := by
  cases k <;> first | (cases hu; done) | skip
  all_goals
    simp only [IntKind.wrap, IntKind.bits, IntKind.signed, limit, Int.ofNat_eq_natCast]
    simp
    rfl
theorem shl_fast (k : IntKind) (m j : Nat) : shiftV .shl k (Int.ofNat m) (Int.ofNat j) = some (.int k (k.wrap (Int.ofNat (Nat.mul m (Nat.pow 2 (Nat.min j k.bits)))))) := by
  show some (V.int k (k.wrap (Int.ofNat m * 2 ^ (min (Int.ofNat j).toNat k.bits)))) = _
  have : (Int.ofNat m * 2 ^ (min (Int.ofNat j).toNat k.bits)) = Int.ofNat (Nat.mul m (Nat.pow 2 (Nat.min j k.bits))) := by
    show (m : Int) * 2 ^ (min j k.bits) = ((m * 2 ^ (min j k.bits) : Nat) : Int)
    simp
  rw [this]
theorem shr_fast (k : IntKind) (m j : Nat) : shiftV .shr k (Int.ofNat m) (Int.ofNat j) = some (.int k (Int.ofNat (Nat.div m (Nat.pow 2 (Nat.min j k.bits))))) := by
  show some (V.int k (Int.fdiv (Int.ofNat m) (2 ^ (min (Int.ofNat j).toNat k.bits)))) = _
  have : Int.fdiv (Int.ofNat m) (2 ^ (min (Int.ofNat j).toNat k.bits)) = Int.ofNat (Nat.div m (Nat.pow 2 (Nat.min j k.bits))) := by
    show Int.fdiv (m : Int) (2 ^ (min j k.bits)) = ((m / 2 ^ (min j k.bits) : Nat) : Int)
    have h2 : ((2 : Int) ^ (min j k.bits)) = ((2 ^ (min j k.bits) : Nat) : Int) := by simp
    rw [h2, Int.natCast_ediv, Int.fdiv_eq_ediv_of_nonneg _ (Int.natCast_nonneg _)]
  rw [this]
theorem sub_fast {m n : Nat} (h : n ≤ m) : Int.sub (Int.ofNat m) (Int.ofNat n) = Int.ofNat (Nat.sub m n) := by
  show (m : Int) - (n : Int) = ((m - n : Nat) : Int)
  omega
theorem not_fast (k : IntKind) (hu : k.signed = false) {m : Nat} (hm : m < limit k) : unOpV .xor (.int k (Int.ofNat m)) = some (.int k (.ofNat (Nat.xor (Nat.sub (limit k) 1) m))) := by
  have hmax : (if k.signed then (-1 : Int) else k.max) = Int.ofNat (Nat.sub (limit k) 1) := by
    cases k <;> first | (cases hu; done) | rfl
  show intOpV .xor k (if k.signed then -1 else k.max) (Int.ofNat m) = _
  rw [hmax]
  exact xor_fast k (by have : 0 < limit k := by cases k <;> decide
                       show limit k - 1 < limit k
                       omega) hm
theorem signedB_ok (k : IntKind) : signedB k = k.signed := by cases k <;> rfl
theorem bitsK_ok (k : IntKind) : bitsK k = k.bits := by cases k <;> rfl
theorem wrapBig_ok (k : IntKind) (m : Nat) (κ : Int → Res) : wrapBig k m κ = κ (k.wrap (Int.ofNat m)) := by
  unfold wrapBig
  cases hs : signedB k with
  | true => exact forceI_ok _ _
  | false =>
    show (forceN (Nat.mod m (limit k)) fun m => κ (Int.ofNat m)) = _
    rw [forceN_ok, wrap_u k (by rw [← signedB_ok]; exact hs)]
theorem wrapN_ok (k : IntKind) (m : Nat) (κ : Int → Res) : wrapN k m κ = κ (k.wrap (Int.ofNat m)) := by
  unfold wrapN
  rw [forceN_ok]
  unfold wrapG
  cases hb : Nat.blt m (limit k) with
  | false => exact wrapBig_ok k m κ
  | true =>
    have h : m < limit k := by simpa [Nat.blt_eq] using hb
    show κ (Int.ofNat m) = _
    rw [wrap_lt k m h]
theorem wrapK_ok (k : IntKind) (n : Int) (κ : Int → Res) : wrapK k n κ = κ (k.wrap n) := by
  cases n with
  | ofNat m => exact wrapN_ok k m κ
  | negSucc m => exact forceI_ok _ _
/-- two numbers, whatever they are: the quick way and the slow one agree -/
theorem iNN_ok {a b : Int} {slow : Res} {f : Nat → Nat → Res} (h : ∀ m n, a = Int.ofNat m → b = Int.ofNat n → f m n = slow) : iNN a b slow f = slow := by
  cases a with
  | ofNat m =>
    cases b with
    | ofNat n => exact h m n rfl rfl
    | negSucc n => rfl
  | negSucc m => rfl
theorem intEqK_ok (a b : Int) : intEqK a b = intEq a b := by cases a <;> cases b <;> rfl
theorem intLtK_ok (a b : Int) : intLtK a b = intLt a b := by cases a <;> cases b <;> rfl
theorem notK_ok (b : Bool) : notK b = !b := by cases b <;> rfl
theorem kvB_ok (b : Bool) (k : V → Res) : kvB b k = k (.bool b) := by cases b <;> rfl
theorem vI_int (k : IntKind) (n : Int) (κ : V → Res) : vI (.int k n) κ = κ (.int k n) := forceI_ok n _
theorem vI_bool (b : Bool) (κ : V → Res) : vI (.bool b) κ = κ (.bool b) := kvB_ok b κ
theorem shiftV_int {op : BinOp} {k : IntKind} {a b : Int} {v : V} (h : shiftV op k a b = some v) : ∃ n, v = .int k n := by
  unfold shiftV at h
  rw [cond_none_some] at h
  obtain ⟨_, h⟩ := h
  cases op <;> cases h <;> exact ⟨_, rfl⟩
theorem intOpV_ib {op : BinOp} {k : IntKind} {a b : Int} {v : V} (h : intOpV op k a b = some v) : (∃ n, v = .int k n) ∨ ∃ c, v = .bool c := by
  cases op <;> simp only [intOpV, cond_none_some, Option.some.injEq] at h <;> first | (cases h; done) | (subst h; exact .inl ⟨_, rfl⟩) | (subst h; exact .inr ⟨_, rfl⟩) | (obtain ⟨_, h⟩ := h; subst h; exact .inl ⟨_, rfl⟩)
theorem slowI_ok (op : BinOp) (k : IntKind) (a b : Int) (κ : V → Res) : slowI op k a b κ = (intOpV op k a b).bind κ := by
  unfold slowI
  rw [optV_ok]
  cases h : intOpV op k a b with
  | none => rfl
  | some v =>
    rcases intOpV_ib h with ⟨n, rfl⟩ | ⟨c, rfl⟩
    · exact vI_int _ _ _
    · exact vI_bool _ _
theorem intGen_ok (op : BinOp) (k : IntKind) (a b : Int) (κ : V → Res) : (intGen op).f k a b κ = (intOpV op k a b).bind κ := slowI_ok op k a b κ
theorem slowS_ok (op : BinOp) (k : IntKind) (a b : Int) (κ : V → Res) : slowS op k a b κ = (shiftV op k a b).bind κ := by
  unfold slowS
  rw [optV_ok]
  cases h : shiftV op k a b with
  | none => rfl
  | some v =>
    obtain ⟨n, rfl⟩ := shiftV_int h
    exact vI_int _ _ _
theorem bitB_ok (f : Nat → Nat → Nat) (op : BinOp) (hf : ∀ (k : IntKind) {m n : Nat}, m < limit k → n < limit k → intOpV op k (Int.ofNat m) (Int.ofNat n) = some (.int k (.ofNat (f m n)))) (k : IntKind) (a b : Int) (κ : V → Res) :
    (bitB f op).f k a b κ = (intOpV op k a b).bind κ := by
  refine Eq.trans (iNN_ok fun m n ha hb => ?_) (slowI_ok op k a b κ)
  cases h1 : Nat.blt m (limit k) with
  | false => rfl
  | true =>
    cases h2 : Nat.blt n (limit k) with
    | false => rfl
    | true =>
      show (forceN (f m n) fun z => κ (.int k (.ofNat z))) = _
      rw [forceN_ok, slowI_ok, ha, hb, hf k (by simpa [Nat.blt_eq] using h1) (by simpa [Nat.blt_eq] using h2)]
      rfl
theorem minK_ok (j : Nat) (k : IntKind) : minK j k = Nat.min j k.bits := by
  unfold minK
  rw [bitsK_ok]
  show @Bool.rec (fun _ => Nat) k.bits j (Nat.ble j k.bits) = min j k.bits
  cases h : Nat.ble j k.bits with
  | true => have := Nat.le_of_ble_eq_true h; show j = _; omega
  | false =>
    have : ¬ j ≤ k.bits := fun e => by rw [Nat.ble_eq_true_of_le e] at h; cases h
    show k.bits = _; omega
theorem shJ_ok (op : BinOp) (k : IntKind) (a b : Int) (κ : V → Res) : (shJ op).f k a b κ = (shiftV op k a b).bind κ := by
  cases op with
  | shl =>
    refine Eq.trans (iNN_ok fun m j ha hb => ?_) (slowS_ok .shl k a b κ)
    show wrapN k (Nat.mul m (Nat.pow 2 (minK j k))) (kInt k κ) = _
    rw [wrapN_ok, slowS_ok, ha, hb, shl_fast, minK_ok]; rfl
  | shr =>
    refine Eq.trans (iNN_ok fun m j ha hb => ?_) (slowS_ok .shr k a b κ)
    show (forceN (Nat.div m (Nat.pow 2 (minK j k))) fun z => κ (.int k (.ofNat z))) = _
    rw [forceN_ok, slowS_ok, ha, hb, shr_fast, minK_ok]; rfl
  | _ => exact slowS_ok _ k a b κ
theorem intJ_ok (op : BinOp) (k : IntKind) (a b : Int) (κ : V → Res) : (intJ op).f k a b κ = (intOpV op k a b).bind κ := by
  cases op with
  | add =>
    refine Eq.trans (iNN_ok fun m n ha hb => ?_) (wrapK_ok k (Int.add a b) (kInt k κ))
    show wrapN k (Nat.add m n) (kInt k κ) = _
    rw [wrapN_ok, wrapK_ok, ha, hb]; rfl
  | sub =>
    refine Eq.trans (iNN_ok fun m n ha hb => ?_) (wrapK_ok k (Int.sub a b) (kInt k κ))
    cases h : Nat.ble n m with
    | false => rfl
    | true =>
      show wrapN k (Nat.sub m n) (kInt k κ) = _
      rw [wrapN_ok, wrapK_ok, ha, hb, sub_fast (Nat.le_of_ble_eq_true h)]
  | mul =>
    refine Eq.trans (iNN_ok fun m n ha hb => ?_) (wrapK_ok k (Int.mul a b) (kInt k κ))
    show wrapN k (Nat.mul m n) (kInt k κ) = _
    rw [wrapN_ok, wrapK_ok, ha, hb]; rfl
  | and => exact bitB_ok _ _ (fun k {_ _} h1 h2 => and_fast k h1 h2) k a b κ
  | or => exact bitB_ok _ _ (fun k {_ _} h1 h2 => or_fast k h1 h2) k a b κ
  | xor => exact bitB_ok _ _ (fun k {_ _} h1 h2 => xor_fast k h1 h2) k a b κ
  | eql => show kvB (intEqK a b) κ = κ (.bool (intEq a b)); rw [kvB_ok, intEqK_ok]
  | neq => show kvB (notK (intEqK a b)) κ = κ (.bool (!intEq a b)); rw [kvB_ok, notK_ok, intEqK_ok]
  | lss => show kvB (intLtK a b) κ = κ (.bool (intLt a b)); rw [kvB_ok, intLtK_ok]
  | leq => show kvB (notK (intLtK b a)) κ = κ (.bool (!intLt b a)); rw [kvB_ok, notK_ok, intLtK_ok]
  | gtr => show kvB (intLtK b a) κ = κ (.bool (intLt b a)); rw [kvB_ok, intLtK_ok]
  | geq => show kvB (notK (intLtK a b)) κ = κ (.bool (!intLt a b)); rw [kvB_ok, notK_ok, intLtK_ok]
  | _ => exact intGen_ok _ k a b κ
theorem kEqK_ok (a b : IntKind) : kEqK a b = kEq a b := rfl
theorem vInt_int (k : IntKind) (n : Int) (kn : V → Res) (κ : IntKind → Int → Res) : vInt (.int k n) kn κ = κ k n := rfl
theorem vInt_other {v : V} (h : ∀ k n, v ≠ .int k n) (kn : V → Res) (κ : IntKind → Int → Res) : vInt v kn κ = kn v := by
  cases v with
  | int k n => exact absurd rfl (h k n)
  | _ => rfl

variable {P : Program}
theorem binPlain_ok (i : IB) (g : V → V → St → Option V) (x y : V) (s : St) (κ : V → Res) :
    (binPlain i g).f x y s κ = vInt x (fun x => optV (g x y s) κ) fun k a => vInt y (fun _ => none) fun k' b => @Bool.rec (fun _ => Res) none (i.f k a b κ) (kEqK k k') := by cases i; rfl
theorem binJ_ok (c : Bool) (op : BinOp) (t : TypeId) (x y : V) (s : St) (κ : V → Res) : (binJ P c op t).f x y s κ = (binOpV P s c op t x y).bind κ := by
  have hx : ∀ (F : V → Res) (G : IntKind → Int → Res), (∀ v, x = v → (∀ k n, v ≠ .int k n) → F v = (binOpV P s c op t x y).bind κ) → (∀ k n, x = .int k n → G k n = (binOpV P s c op t x y).bind κ) → vInt x F G = (binOpV P s c op t x y).bind κ := by
    intro F G h1 h2
    cases x with
    | int k n => exact h2 k n rfl
    | _ => exact h1 _ rfl (fun _ _ e => by cases e)
  unfold binJ
  cases hs : isShift op with
  | false =>
    show (binPlain (intJ op) fun x y s => binOpV P s c op t x y).f x y s κ = _
    rw [binPlain_ok]
    refine hx _ _ (fun v e _ => ?_) fun k a e => ?_
    · subst e; exact optV_ok _ _
    · subst e
      cases y with
      | int k' b =>
        show @Bool.rec (fun _ => Res) none ((intJ op).f k a b κ) (kEqK k k') = (bif isShift op then shiftV op k a b else bif kEq k k' then intOpV op k a b else none).bind κ
        rw [hs, kEqK_ok, intJ_ok]; cases kEq k k' <;> rfl
      | _ => rfl
  | true =>
    have hsb : ∀ (i : IB) (g : V → V → St → Option V), (binShift i g).f x y s κ = vInt x (fun x => optV (g x y s) κ) fun k a => vInt y (fun _ => none) fun _ b => i.f k a b κ := fun i g => by cases i; rfl
    refine (hsb _ _).trans ?_
    refine hx _ _ (fun v e _ => ?_) fun k a e => ?_
    · subst e; exact optV_ok _ _
    · subst e
      cases y with
      | int k' b =>
        show (shJ op).f k a b κ = (bif isShift op then shiftV op k a b else bif kEq k k' then intOpV op k a b else none).bind κ
        rw [hs, shJ_ok]; rfl
      | _ => rfl

/-- an operation that gives a value and leaves memory as it is -/
theorem pure_bind {α : Type} (o : Option α) (f : α → Option V) (s : St) (kv : KV) (ko : Out → Res) (F : α → Res) (h : ∀ v, F v = (f v).bind fun w => kv w s) :
    o.bind F = optO (pureO s (o.bind f)) kv ko := by
  cases o with
  | none => rfl
  | some v =>
    show F v = _
    rw [h, optO_ok]
    show _ = ((f v).map fun w => Out.val w s).bind _
    cases f v <;> rfl
theorem mem_bind {α : Type} (o : Option α) (f : α → Option (V × St)) (kv : KV) (ko : Out → Res) (F : α → Res) (h : ∀ v, F v = (f v).bind fun p => kv p.1 p.2) :
    o.bind F = optO (memO (o.bind f)) kv ko := by
  cases o with
  | none => rfl
  | some v =>
    show F v = _
    rw [h, optO_ok]
    show _ = ((f v).map fun r => Out.val r.1 r.2).bind _
    cases f v <;> rfl
theorem unit_bind {α : Type} (o : Option α) (f : α → Option St) (kv : KV) (ko : Out → Res) (F : α → Res) (h : ∀ v, F v = (f v).bind fun s => kv undef s) :
    o.bind F = optO (unitO (o.bind f)) kv ko := by
  cases o with
  | none => rfl
  | some v =>
    show F v = _
    rw [h, optO_ok]
    show _ = ((f v).map fun s => Out.val undef s).bind _
    cases f v <;> rfl
theorem bind_ext {α : Type} {o : Option α} {β : Type} {F G : α → Option β} (h : ∀ v, F v = G v) : o.bind F = o.bind G := by rw [funext h]
theorem obind_assoc {α β γ : Type} (o : Option α) (f : α → Option β) (g : β → Option γ) : (o.bind f).bind g = o.bind fun a => (f a).bind g := by cases o <;> rfl
/-- the same, of a call -/
theorem out_bind {α : Type} (o : Option α) (f : α → Option Out) (kv : KV) (ko : Out → Res) (F : α → Res) (h : ∀ v, F v = optO (f v) kv ko) :
    o.bind F = optO (o.bind f) kv ko := by
  cases o with
  | none => rfl
  | some v => exact h v

section
variable (a : Act) (s : St) (kv : KV) (ko : Out → Res)
theorem mv_ok (x : Operand) : (mvX (opdJ x)).run a s kv ko = optO (pureO s (a.eval x)) kv ko := by
  have h : (mvX (opdJ x)).run a s kv ko = (opdJ x).ev a fun v => kv v s := by cases opdJ x; rfl
  rw [h, opdJ_ok, optO_ok]
  show _ = ((a.eval x).map fun v => Out.val v s).bind _
  cases a.eval x <;> rfl
theorem pick_ok (c x y : Operand) : (pickX (opdJ c) (opdJ x) (opdJ y)).run a s kv ko = optO (pureO s ((a.eval c).bind (pickV a x y))) kv ko := by
  have h : (pickX (opdJ c) (opdJ x) (opdJ y)).run a s kv ko = (opdJ c).ev a fun c => vBool c fun c => @Bool.rec (fun _ => Res) ((opdJ y).ev a fun v => kv v s) ((opdJ x).ev a fun v => kv v s) c := by cases opdJ c; cases opdJ x; cases opdJ y; rfl
  rw [h, opdJ_ok]
  refine pure_bind _ _ _ _ _ _ fun v => ?_
  rw [vBool_ok]
  unfold pickV
  cases asBoolV v with
  | none => rfl
  | some b => cases b <;> exact opdJ_ok _ _ _
theorem alloc_ok (t : TypeId) : (allocX (zeroOf P t)).run a s kv ko = optO (memO ((zeroOf P t).bind fun z => (s.newRow z true 0).map ptrOf)) kv ko := by
  cases zeroOf P t with
  | none => rfl
  | some z =>
    rw [optO_ok]
    simp only [allocX, Option.bind_some, St.newRow]
    cases allOne z with
    | false => rfl
    | true =>
      show newK s (.cells z true 0) _ = _
      rw [newK_ok]
      simp only [cond_true]
      cases s.new (.cells z true 0) <;> rfl
theorem box_ok (x : Operand) : (boxX (opdJ x)).run a s kv ko = optO (memO ((a.eval x).bind fun v => (s.newRow (cellsOf v) true 0).map ptrOf)) kv ko := by
  have h : (boxX (opdJ x)).run a s kv ko = (opdJ x).ev a fun v => vCells v fun l => @Bool.rec (fun _ => Res) none (newK s (.cells l true 0) fun b s => kv (.ptr b 0) s) (allOneK l) := by cases opdJ x; rfl
  rw [h, opdJ_ok]
  refine mem_bind _ _ _ _ _ fun v => ?_
  rw [vCells_ok, allOneK_ok]
  simp only [St.newRow]
  cases allOne (cellsOf v) with
  | false => rfl
  | true =>
    show newK s (.cells (cellsOf v) true 0) _ = _
    rw [newK_ok]
    simp only [cond_true]
    cases s.new (.cells (cellsOf v) true 0) <;> rfl
theorem build_ok (t : TypeId) (l : List (Nat × Operand)) : (buildX P t (evalPJ l)).run a s kv ko = optO (pureO s ((evalP a l).bind (buildV P t))) kv ko := by
  have h : (buildX P t (evalPJ l)).run a s kv ko = (evalPJ l).ev a fun ps => optV (buildV P t ps) fun v => kv v s := by cases evalPJ l; rfl
  rw [h, evalPJ_ok]
  exact pure_bind _ _ _ _ _ _ fun v => optV_ok _ _
theorem buildSlice_ok (t : TypeId) (n : Nat) (l : List (Nat × Operand)) : (buildSliceX P t n (evalPJ l)).run a s kv ko = optO (memO ((evalP a l).bind (buildSliceV P s t n))) kv ko := by
  have h : (buildSliceX P t n (evalPJ l)).run a s kv ko = (evalPJ l).ev a fun ps => optVS (buildSliceV P s t n ps) kv := by cases evalPJ l; rfl
  rw [h, evalPJ_ok]
  exact mem_bind _ _ _ _ _ fun v => optVS_ok _ _
theorem partJ_ok (t : TypeId) (cs : List V) (o : Nat) (k : V → Res) : (partJ P t).f cs o k = (partOf P t cs o).bind k := by
  unfold partJ partOf
  cases agg? P t with
  | none => rfl
  | some b =>
    cases b with
    | false => exact nthK_ok o cs k
    | true =>
      simp only [Option.bind_some, cond_true]
      cases szOf P t with
      | none => rfl
      | some n =>
        show (dropK o cs fun l => takeK n l fun l => k (.agg l)) = _
        rw [dropK_ok, takeK_ok]
        simp only [Option.bind_some]
        cases takeN n (cs.drop o) <;> rfl
theorem load_ok (t : TypeId) (x : Operand) : (loadX (opdJ x) (partJ P t)).run a s kv ko = optO (pureO s ((a.eval x).bind fun v => (asPtr v).bind fun p => ldVar P s t p.1 p.2)) kv ko := by
  have h : (loadX (opdJ x) (partJ P t)).run a s kv ko = (opdJ x).ev a fun v => vPtr v fun b o => rowK s b fun cs => (partJ P t).f cs o fun w => kv w s := by cases opdJ x; cases partJ P t; rfl
  rw [h, opdJ_ok]
  refine pure_bind _ _ _ _ _ _ fun v => ?_
  rw [vPtr_ok, obind_assoc]
  refine bind_ext fun p => ?_
  rw [rowK_ok, ldVar, obind_assoc]
  exact bind_ext fun cs => partJ_ok _ _ _ _
theorem store_ok (t : TypeId) (x y : Operand) : (storeX (szOf P t) (opdJ x) (opdJ y)).run a s kv ko =
    optO (unitO ((a.eval x).bind fun v => (asPtr v).bind fun p => (a.eval y).bind fun w => stVar P s t p.1 p.2 w)) kv ko := by
  cases hn : szOf P t with
  | none =>
    have h : (storeX none (opdJ x) (opdJ y)).run a s kv ko = none := by cases opdJ x; cases opdJ y; rfl
    rw [h, optO_ok]
    simp only [stVar, hn, Option.bind_none]
    cases a.eval x with
    | none => rfl
    | some v =>
      simp only [Option.bind_some]
      cases asPtr v with
      | none => rfl
      | some p => simp only [Option.bind_some]; cases a.eval y <;> rfl
  | some n =>
    have h : (storeX (some n) (opdJ x) (opdJ y)).run a s kv ko = (opdJ x).ev a fun v => vPtr v fun b o => (opdJ y).ev a fun w => vCells w fun l => isCellsK n l fun l => wrK s b o l fun s => kv undef s := by cases opdJ x; cases opdJ y; rfl
    rw [h, opdJ_ok]
    refine unit_bind _ _ _ _ _ fun v => ?_
    rw [vPtr_ok, obind_assoc]
    refine bind_ext fun p => ?_
    rw [opdJ_ok, obind_assoc]
    refine bind_ext fun w => ?_
    rw [vCells_ok, isCellsK_ok, stVar, hn]
    simp only [Option.bind_some]
    cases Nat.beq (cellsOf w).length n with
    | false => rfl
    | true => exact wrK_ok _ _ _ _ _
theorem nilK_ok (v : V) (k : V → Res) : nilK P v k = (nilCheckV P v).bind k := by
  cases v with
  | func f x y => exact optV_ok _ _
  | _ => rfl
theorem nil_ok (x : Operand) : (nilX P (opdJ x)).run a s kv ko = optO (pureO s ((a.eval x).bind (nilCheckV P))) kv ko := by
  have h : (nilX P (opdJ x)).run a s kv ko = (opdJ x).ev a fun v => nilK P v fun v => kv v s := by cases opdJ x; rfl
  rw [h, opdJ_ok]
  exact pure_bind _ _ _ _ _ _ fun v => nilK_ok _ _
theorem bin_ok (c : Bool) (op : BinOp) (t : TypeId) (x y : Operand) : (binX (opdJ x) (opdJ y) (binJ P c op t)).run a s kv ko =
    optO (pureO s ((a.eval x).bind fun v => (a.eval y).bind fun w => binOpV P s c op t v w)) kv ko := by
  have h : (binX (opdJ x) (opdJ y) (binJ P c op t)).run a s kv ko = (opdJ x).ev a fun v => (opdJ y).ev a fun w => (binJ P c op t).f v w s fun u => kv u s := by cases opdJ x; cases opdJ y; cases binJ P c op t; rfl
  rw [h, opdJ_ok]
  refine pure_bind _ _ _ _ _ _ fun v => ?_
  rw [opdJ_ok, obind_assoc]
  exact bind_ext fun w => binJ_ok _ _ _ _ _ _ _
theorem notU_ok (v : V) (κ : V → Res) : notU v κ = (unOpV .xor v).bind κ := by
  cases v with
  | int k n =>
    cases n with
    | ofNat m =>
      show notUk k m κ = _
      unfold notUk
      cases hs : signedB k with
      | true => exact optV_ok _ _
      | false =>
        cases hb : Nat.blt m (limit k) with
        | false => exact optV_ok _ _
        | true =>
          show (forceN (Nat.xor (Nat.sub (limit k) 1) m) fun z => κ (.int k (.ofNat z))) = _
          rw [forceN_ok, not_fast k (by rw [← signedB_ok]; exact hs) (by simpa [Nat.blt_eq] using hb)]; rfl
    | negSucc m => show slowU (.int k (.negSucc m)) κ = _; exact optV_ok _ _
  | _ => rfl
theorem un_ok (op : UnOp) (x : Operand) : (unX op (opdJ x)).run a s kv ko = optO (pureO s ((a.eval x).bind (unOpV op))) kv ko := by
  cases op with
  | not =>
    have h : (unX .not (opdJ x)).run a s kv ko = (opdJ x).ev a fun v => notV v fun v => kv v s := by cases opdJ x; rfl
    rw [h, opdJ_ok]
    refine pure_bind _ _ _ _ _ _ fun v => ?_
    cases v with
    | bool b => show kvB (notK b) _ = _; rw [kvB_ok, notK_ok]; rfl
    | _ => rfl
  | neg =>
    have h : (unX .neg (opdJ x)).run a s kv ko = (opdJ x).ev a fun v => optV (unOpV .neg v) fun v => kv v s := by cases opdJ x; rfl
    rw [h, opdJ_ok]
    exact pure_bind _ _ _ _ _ _ fun v => optV_ok _ _
  | xor =>
    have h : (unX .xor (opdJ x)).run a s kv ko = (opdJ x).ev a fun v => notU v fun v => kv v s := by cases opdJ x; rfl
    rw [h, opdJ_ok]
    exact pure_bind _ _ _ _ _ _ fun v => notU_ok v _
  | plus =>
    have h : (unX .plus (opdJ x)).run a s kv ko = (opdJ x).ev a fun v => optV (unOpV .plus v) fun v => kv v s := by cases opdJ x; rfl
    rw [h, opdJ_ok]
    exact pure_bind _ _ _ _ _ _ fun v => optV_ok _ _
theorem cvJ_ok (src dst : TypeId) (v : V) : (cvJ P src dst).f v s kv = (convertV P s src dst v).bind fun p => kv p.1 p.2 := by
  have gen : (cvGen P src dst).f v s kv = (convertV P s src dst v).bind fun p => kv p.1 p.2 := optVS_ok _ _
  unfold cvJ
  cases hs : P.underlying src with
  | none => exact gen
  | some d =>
    cases hd : P.underlying dst with
    | none => exact gen
    | some e =>
      cases e with
      | int k =>
        show vInt v (fun v => optVS (convertV P s src dst v) kv) (fun _ n => wrapK k n fun n => kv (.int k n) s) = _
        cases v with
        | int k' n =>
          show wrapK k n _ = _
          rw [wrapK_ok]
          unfold convertV
          rw [hs, hd]; rfl
        | _ => exact optVS_ok _ _
      | _ => exact gen
theorem conv_ok (src dst : TypeId) (x : Operand) : (convX (opdJ x) (cvJ P src dst)).run a s kv ko = optO (memO ((a.eval x).bind (convertV P s src dst))) kv ko := by
  have h : (convX (opdJ x) (cvJ P src dst)).run a s kv ko = (opdJ x).ev a fun v => (cvJ P src dst).f v s kv := by cases opdJ x; cases cvJ P src dst; rfl
  rw [h, opdJ_ok]
  exact mem_bind _ _ _ _ _ fun v => cvJ_ok s kv src dst v
theorem iface_ok (t : TypeId) (x : Operand) : (ifaceX P t (opdJ x)).run a s kv ko = optO (pureO s ((a.eval x).bind (makeIfaceV P t))) kv ko := by
  have h : (ifaceX P t (opdJ x)).run a s kv ko = (opdJ x).ev a fun v => optV (makeIfaceV P t v) fun v => kv v s := by cases opdJ x; rfl
  rw [h, opdJ_ok]
  exact pure_bind _ _ _ _ _ _ fun v => optV_ok _ _
theorem func_ok (fn : Go.Fn) (f c : List Operand) : (funcX fn (evalsJ f) (evalsJ c)).run a s kv ko =
    optO (pureO s ((evals a f).bind fun f => (evals a c).bind fun c => bif goodFn fn then some (.func fn f c) else none)) kv ko := by
  cases hg : goodFn fn with
  | false =>
    have h : (funcX fn (evalsJ f) (evalsJ c)).run a s kv ko = (evalsJ f).ev a fun _ => (evalsJ c).ev a fun _ => none := by unfold funcX; rw [hg]
    rw [h, evalsJ_ok]
    refine pure_bind _ _ _ _ _ _ fun v => ?_
    rw [evalsJ_ok, obind_assoc]
    rfl
  | true =>
    have h : (funcX fn (evalsJ f) (evalsJ c)).run a s kv ko = (evalsJ f).ev a fun f => (evalsJ c).ev a fun c => kv (.func fn f c) s := by unfold funcX; rw [hg]
    rw [h, evalsJ_ok]
    refine pure_bind _ _ _ _ _ _ fun v => ?_
    rw [evalsJ_ok, obind_assoc]
    rfl
theorem map_ok (r : Option Operand) : (mapX r).run a s kv ko = optO (bif r.isNone then memO ((s.new (.map [] (some ([], 0)))).map mapOfR) else none) kv ko := by
  unfold mapX
  cases r.isNone with
  | false => rfl
  | true =>
    show newK s (.map [] (some ([], 0))) _ = _
    rw [newK_ok, optO_ok]
    simp only [cond_true]
    cases s.new (.map [] (some ([], 0))) <;> rfl
theorem mkSlice_ok (t : TypeId) (l c : Operand) : (mkSliceX P t (opdJ l) (opdJ c)).run a s kv ko = optO (memO ((a.eval l).bind fun l => (a.eval c).bind fun c => makeSliceV P s t l c)) kv ko := by
  have h : (mkSliceX P t (opdJ l) (opdJ c)).run a s kv ko = (opdJ l).ev a fun l => (opdJ c).ev a fun c => optVS (makeSliceV P s t l c) kv := by cases opdJ l; cases opdJ c; rfl
  rw [h, opdJ_ok]
  refine mem_bind _ _ _ _ _ fun v => ?_
  rw [opdJ_ok, obind_assoc]
  exact bind_ext fun w => optVS_ok _ _
theorem slice_ok (t : TypeId) (x : Operand) (lo hi mx : Option Operand) : (sliceX P t (opdJ x) (evalOJ lo) (evalOJ hi) (evalOJ mx)).run a s kv ko =
    optO (pureO s ((a.eval x).bind fun x => (evalO a lo).bind fun lo => (evalO a hi).bind fun hi => (evalO a mx).bind fun mx => sliceV P t x lo hi mx)) kv ko := by
  have h : (sliceX P t (opdJ x) (evalOJ lo) (evalOJ hi) (evalOJ mx)).run a s kv ko = (opdJ x).ev a fun x => (evalOJ lo).ev a fun lo => (evalOJ hi).ev a fun hi => (evalOJ mx).ev a fun mx => optV (sliceV P t x lo hi mx) fun v => kv v s := by
    cases opdJ x; cases evalOJ lo; cases evalOJ hi; cases evalOJ mx; rfl
  rw [h, opdJ_ok]
  refine pure_bind _ _ _ _ _ _ fun v => ?_
  rw [evalOJ_ok, obind_assoc]
  refine bind_ext fun w => ?_
  rw [evalOJ_ok, obind_assoc]
  refine bind_ext fun w => ?_
  rw [evalOJ_ok, obind_assoc]
  exact bind_ext fun w => optV_ok _ _
theorem faddr_ok (t : TypeId) (x : Operand) (f : Nat) : (faddrX P t (opdJ x) f).run a s kv ko = optO (pureO s ((a.eval x).bind fun x => fieldAddrV P t x f)) kv ko := by
  have dead : ∀ g : V → Option V, (∀ v, g v = none) → ((opdJ x).ev a fun _ => (none : Res)) = optO (pureO s ((a.eval x).bind g)) kv ko := by
    intro g hg
    rw [opdJ_ok]
    exact pure_bind _ _ _ _ _ _ fun v => by rw [hg]; rfl
  unfold faddrX fieldAddrV
  cases fieldOf P t f with
  | none =>
    have h : (@OpB.rec (fun _ => XB) (fun x => @Option.rec Field (fun _ => XB) ⟨fun a _ _ _ => x a fun _ => none⟩ (fun fd => faddrGo fd (szOf P fd.type) x) none) (opdJ x)).run a s kv ko = (opdJ x).ev a fun _ => none := by cases opdJ x; rfl
    exact h.trans (dead _ fun _ => rfl)
  | some fd =>
    simp only [Option.bind_some]
    cases szOf P fd.type with
    | none =>
      have h : (@OpB.rec (fun _ => XB) (fun x => @Option.rec Field (fun _ => XB) ⟨fun a _ _ _ => x a fun _ => none⟩ (fun fd => faddrGo fd (none : Option Nat) x) (some fd)) (opdJ x)).run a s kv ko = none := by cases opdJ x; rfl
      refine Eq.trans ?_ (dead (fun _ => none) fun _ => rfl)
      have h2 : ((opdJ x).ev a fun _ => (none : Res)) = none := by rw [opdJ_ok]; cases a.eval x <;> rfl
      rw [h2]; cases opdJ x; rfl
    | some n =>
      simp only [Option.bind_some]
      cases hn : Nat.beq n 0 with
      | true =>
        have h : ((opdJ x).ev a fun _ => (none : Res)) = optO (pureO s ((a.eval x).bind fun x => (asPtr x).bind fun q => bif true then none else some (.ptr q.1 (Nat.add q.2 fd.offset)))) kv ko :=
          dead _ fun v => by cases asPtr v <;> rfl
        refine Eq.trans ?_ h
        unfold faddrGo
        simp only [hn]
      | false =>
        have h : ((opdJ x).ev a fun v => vPtr v fun b o => kv (.ptr b (Nat.add o fd.offset)) s) = optO (pureO s ((a.eval x).bind fun x => (asPtr x).bind fun q => bif false then none else some (.ptr q.1 (Nat.add q.2 fd.offset)))) kv ko := by
          rw [opdJ_ok]
          refine pure_bind _ _ _ _ _ _ fun v => ?_
          rw [vPtr_ok]; cases asPtr v <;> rfl
        refine Eq.trans ?_ h
        unfold faddrGo
        simp only [hn]
theorem field_ok (t : TypeId) (x : Operand) (f : Nat) : (fieldX P t (opdJ x) f).run a s kv ko = optO (pureO s ((a.eval x).bind fun x => fieldV P t x f)) kv ko := by
  have h : (fieldX P t (opdJ x) f).run a s kv ko = (opdJ x).ev a fun x => optV (fieldV P t x f) fun v => kv v s := by cases opdJ x; rfl
  rw [h, opdJ_ok]
  exact pure_bind _ _ _ _ _ _ fun v => optV_ok _ _
theorem ixJ_ok (t : TypeId) (x : V) (i : Nat) (ki : IntKind) (κ : V → Res) : (ixJ P t).f x i κ = (indexAddrV P t x (.int ki (.ofNat i))).bind κ := by
  have hn : natOf (.int ki (.ofNat i)) = some i := rfl
  unfold ixJ indexAddrV
  rw [hn]
  simp only [Option.bind_some]
  cases P.underlying t with
  | none => rfl
  | some d =>
    cases d with
    | array len e =>
      show (ixArr len (szOf P e)).f x i κ = _
      cases x with
      | ptr b o =>
        simp only
        cases szOf P e with
        | none => rfl
        | some n =>
          show @Bool.rec (fun _ => Res) none (κ (.ptr b (Nat.add o (Nat.mul i n)))) (Nat.blt i len) = _
          simp only [Option.bind_some]
          cases Nat.blt i len <;> rfl
      | _ => cases szOf P e <;> rfl
    | slice e =>
      show (ixSl (szOf P e)).f x i κ = _
      cases x with
      | slice b o len c f =>
        simp only
        cases szOf P e with
        | none => rfl
        | some n =>
          show @Bool.rec (fun _ => Res) none (κ (.ptr b (Nat.add o (Nat.mul i n)))) (Nat.blt i len) = _
          simp only [Option.bind_some]
          cases Nat.blt i len <;> rfl
      | _ => cases szOf P e <;> rfl
    | _ => rfl
theorem iaddr_ok (t : TypeId) (x i : Operand) : (iaddrX (opdJ x) (opdJ i) (ixJ P t)).run a s kv ko = optO (pureO s ((a.eval x).bind fun x => (a.eval i).bind fun i => indexAddrV P t x i)) kv ko := by
  have h : (iaddrX (opdJ x) (opdJ i) (ixJ P t)).run a s kv ko = (opdJ x).ev a fun x => (opdJ i).ev a fun i => vNat i fun n => (ixJ P t).f x n fun v => kv v s := by cases opdJ x; cases opdJ i; cases ixJ P t; rfl
  rw [h, opdJ_ok]
  refine pure_bind _ _ _ _ _ _ fun v => ?_
  rw [opdJ_ok, obind_assoc]
  refine bind_ext fun w => ?_
  rw [vNat_ok]
  cases w with
  | int k n =>
    cases n with
    | ofNat m => exact ixJ_ok t v m k _
    | negSucc m => rfl
  | _ => rfl
theorem nthB_ok : ∀ (o : Nat) (l : List UInt8) (k : UInt8 → Res), nthB o l k = ((l.drop o).head?).bind k
  | 0, l, k => by cases l <;> rfl
  | o + 1, l, k => by
    cases l with
    | nil => rfl
    | cons x l => exact nthB_ok o l k
theorem ivArr_ok (len : Nat) (n : Option Nat) (p : PartB) (cs : List V) (i : Nat) (κ : V → Res) : (ivArr len n p).f (.agg cs) i κ = n.bind fun n => bif Nat.blt i len then p.f cs (Nat.mul i n) κ else none := by
  cases n with
  | none => rfl
  | some n =>
    cases p with
    | mk p =>
      show @Bool.rec (fun _ => Res) none (p cs (Nat.mul i n) κ) (Nat.blt i len) = _
      simp only [Option.bind_some]
      cases Nat.blt i len <;> rfl
theorem ivArr_no (len : Nat) (n : Option Nat) (p : PartB) {v : V} (h : ∀ cs, v ≠ .agg cs) (i : Nat) (κ : V → Res) : (ivArr len n p).f v i κ = none := by
  cases n with
  | none => rfl
  | some n => cases p; cases v <;> first | rfl | exact absurd rfl (h _)
theorem ivJ_ok (t : TypeId) (x : V) (i : Nat) (ki : IntKind) (κ : V → Res) : (ivJ P t).f x i κ = (indexV P t x (.int ki (.ofNat i))).bind κ := by
  have hn : natOf (.int ki (.ofNat i)) = some i := rfl
  unfold ivJ indexV
  rw [hn]
  simp only [Option.bind_some]
  cases P.underlying t with
  | none => rfl
  | some d =>
    cases d with
    | array len e =>
      show (ivArr len (szOf P e) (partJ P e)).f x i κ = _
      cases x with
      | agg cs =>
        rw [ivArr_ok]
        simp only
        cases szOf P e with
        | none => rfl
        | some n =>
          simp only [Option.bind_some]
          cases Nat.blt i len with
          | false => rfl
          | true => exact partJ_ok e cs _ κ
      | _ => exact ivArr_no _ _ _ (fun _ e => by cases e) _ _
    | string =>
      show ivStr.f x i κ = _
      cases x with
      | str l =>
        show (nthB i l fun b => forceN b.toNat fun n => κ (.int .u8 (Int.ofNat n))) = _
        rw [nthB_ok]
        simp only
        cases (l.drop i).head? with
        | none => rfl
        | some b => exact forceN_ok _ _
      | _ => rfl
    | _ => rfl
theorem index_ok (t : TypeId) (x i : Operand) : (iaddrX (opdJ x) (opdJ i) (ivJ P t)).run a s kv ko = optO (pureO s ((a.eval x).bind fun x => (a.eval i).bind fun i => indexV P t x i)) kv ko := by
  have h : (iaddrX (opdJ x) (opdJ i) (ivJ P t)).run a s kv ko = (opdJ x).ev a fun x => (opdJ i).ev a fun i => vNat i fun n => (ivJ P t).f x n fun v => kv v s := by cases opdJ x; cases opdJ i; cases ivJ P t; rfl
  rw [h, opdJ_ok]
  refine pure_bind _ _ _ _ _ _ fun v => ?_
  rw [opdJ_ok, obind_assoc]
  refine bind_ext fun w => ?_
  rw [vNat_ok]
  cases w with
  | int k n =>
    cases n with
    | ofNat m => exact ivJ_ok t v m k _
    | negSucc m => rfl
  | _ => rfl
theorem look_ok (t : TypeId) (x k : Operand) (ok : Bool) : (lookX P t (opdJ x) (opdJ k) ok).run a s kv ko = optO (pureO s ((a.eval x).bind fun x => (a.eval k).bind fun k => lookupV P s t x k ok)) kv ko := by
  have h : (lookX P t (opdJ x) (opdJ k) ok).run a s kv ko = (opdJ x).ev a fun x => (opdJ k).ev a fun k => optV (lookupV P s t x k ok) fun v => kv v s := by cases opdJ x; cases opdJ k; rfl
  rw [h, opdJ_ok]
  refine pure_bind _ _ _ _ _ _ fun v => ?_
  rw [opdJ_ok, obind_assoc]
  exact bind_ext fun w => optV_ok _ _
theorem mapUp_ok (t : TypeId) (m k x : Operand) : (mapUpX P t (opdJ m) (opdJ k) (opdJ x)).run a s kv ko =
    optO (unitO ((a.eval m).bind fun m => (a.eval k).bind fun k => (a.eval x).bind fun x => mapUpdateV P s t m k x)) kv ko := by
  have h : (mapUpX P t (opdJ m) (opdJ k) (opdJ x)).run a s kv ko = (opdJ m).ev a fun m => (opdJ k).ev a fun k => (opdJ x).ev a fun x => optS (mapUpdateV P s t m k x) fun s => kv undef s := by cases opdJ m; cases opdJ k; cases opdJ x; rfl
  rw [h, opdJ_ok]
  refine unit_bind _ _ _ _ _ fun v => ?_
  rw [opdJ_ok, obind_assoc]
  refine bind_ext fun w => ?_
  rw [opdJ_ok, obind_assoc]
  exact bind_ext fun w => optS_ok _ _
theorem range_ok (t : TypeId) (x : Operand) : (rangeX P t (opdJ x)).run a s kv ko = optO (memO ((a.eval x).bind (rangeV P s t))) kv ko := by
  have h : (rangeX P t (opdJ x)).run a s kv ko = (opdJ x).ev a fun x => optVS (rangeV P s t x) kv := by cases opdJ x; rfl
  rw [h, opdJ_ok]
  exact mem_bind _ _ _ _ _ fun v => optVS_ok _ _
theorem next_ok (x : Operand) (isStr : Bool) : (nextX (opdJ x) isStr).run a s kv ko = optO (memO ((a.eval x).bind fun it => nextV s it isStr)) kv ko := by
  have h : (nextX (opdJ x) isStr).run a s kv ko = (opdJ x).ev a fun x => optVS (nextV s x isStr) kv := by cases opdJ x; rfl
  rw [h, opdJ_ok]
  exact mem_bind _ _ _ _ _ fun v => optVS_ok _ _
theorem assert_ok (x : Operand) (t : TypeId) (ok : Bool) : (assertX P (opdJ x) t ok).run a s kv ko = optO (pureO s ((a.eval x).bind fun x => typeAssertV P x t ok)) kv ko := by
  have h : (assertX P (opdJ x) t ok).run a s kv ko = (opdJ x).ev a fun x => optV (typeAssertV P x t ok) fun v => kv v s := by cases opdJ x; rfl
  rw [h, opdJ_ok]
  exact pure_bind _ _ _ _ _ _ fun v => optV_ok _ _
theorem entry_ok (x : Operand) : (entryX (opdJ x)).run a s kv ko = optO (pureO s ((a.eval x).bind (entryV s))) kv ko := by
  have h : (entryX (opdJ x)).run a s kv ko = (opdJ x).ev a fun x => optV (entryV s x) fun v => kv v s := by cases opdJ x; rfl
  rw [h, opdJ_ok]
  exact pure_bind _ _ _ _ _ _ fun v => optV_ok _ _
theorem extract_ok (x : Operand) (i : Nat) : (extractX (opdJ x) i).run a s kv ko = optO (pureO s ((a.eval x).bind fun x => (asTup x).bind fun l => (l.drop i).head?)) kv ko := by
  have h : (extractX (opdJ x) i).run a s kv ko = (opdJ x).ev a fun x => vTup x fun l => nthK i l fun v => kv v s := by cases opdJ x; rfl
  rw [h, opdJ_ok]
  refine pure_bind _ _ _ _ _ _ fun v => ?_
  rw [vTup_ok, obind_assoc]
  exact bind_ext fun w => nthK_ok _ _ _
/-! Calls. -/
theorem lenJ_ok (ts : Array TypeId) (x : V) (κ : V → Res) : (lenJ P ts).f x s κ = (lenV P s ts x).bind κ := by
  unfold lenJ
  cases ht : typeAt P ts 0 with
  | none => exact optV_ok _ _
  | some d =>
    cases d with
    | string =>
      show lenStr x κ = _
      unfold lenV
      rw [ht]
      cases x with
      | str b =>
        show (lenBK b 0 fun n => forceN n fun n => κ (.int .i64 (Int.ofNat n))) = _
        rw [lenBK_ok, forceN_ok, Nat.zero_add]; rfl
      | _ => rfl
    | slice e =>
      show lenSl x κ = _
      unfold lenV
      rw [ht]
      cases x <;> rfl
    | _ => exact optV_ok _ _
theorem len_ok (ts : Array TypeId) (l : List Operand) : (lenX (evalsJ l) (lenJ P ts)).run a s kv ko = optO ((evals a l).bind (builtinV P s .len ts)) kv ko := by
  have h : (lenX (evalsJ l) (lenJ P ts)).run a s kv ko = (evalsJ l).ev a fun l =>
      @List.rec V (fun _ => (V → St → (V → Res) → Res) → St → KV → Res) (fun _ _ _ => none) (fun x l _ g s kv => @List.rec V (fun _ => Res) (g x s fun v => kv v s) (fun _ _ _ => none) l) l (lenJ P ts).f s kv := by
    cases evalsJ l; cases lenJ P ts; rfl
  rw [h, evalsJ_ok]
  refine out_bind _ _ _ _ _ fun l => ?_
  cases l with
  | nil => rfl
  | cons x l =>
    cases l with
    | nil =>
      show (lenJ P ts).f x s (fun v => kv v s) = optO (pureO s (lenV P s ts x)) kv ko
      rw [lenJ_ok, optO_ok]
      show _ = ((lenV P s ts x).map fun w => Out.val w s).bind _
      cases lenV P s ts x <;> rfl
    | cons y l => cases l <;> rfl
theorem bi_ok (b : Builtin) (ts : Array TypeId) (l : List Operand) : (biX P b ts (evalsJ l)).run a s kv ko = optO ((evals a l).bind (builtinV P s b ts)) kv ko := by
  have h : (biX P b ts (evalsJ l)).run a s kv ko = (evalsJ l).ev a fun l => optO (builtinV P s b ts l) kv ko := by cases evalsJ l; rfl
  rw [h, evalsJ_ok]
  exact out_bind _ _ _ _ _ fun l => rfl
theorem val_ok (x : Operand) (l : List Operand) : (valX P (opdJ x) (evalsJ l)).run a s kv ko =
    optO ((evals a l).bind fun args => (a.eval x).bind fun f => (asFunc f).bind fun q => invokeFn P s q.1 q.2.2 (q.2.1 ++ args)) kv ko := by
  have h : (valX P (opdJ x) (evalsJ l)).run a s kv ko = (evalsJ l).ev a fun l => (opdJ x).ev a fun f => optO ((asFunc f).bind fun q => invokeFn P s q.1 q.2.2 (q.2.1 ++ l)) kv ko := by cases opdJ x; cases evalsJ l; rfl
  rw [h, evalsJ_ok]
  refine out_bind _ _ _ _ _ fun args => ?_
  rw [opdJ_ok]
  exact out_bind _ _ _ _ _ fun f => rfl
theorem stat_ok (f : FuncId) (l : List Operand) : (statX f (evalsJ l)).run a s kv ko =
    optO ((evals a l).bind fun args => (a.eval (.func f)).bind fun f => (asFunc f).bind fun q => invokeFn P s q.1 q.2.2 (q.2.1 ++ args)) kv ko := by
  have h : (statX f (evalsJ l)).run a s kv ko = (evalsJ l).ev a fun l => ko (.call f l) := by cases evalsJ l; rfl
  rw [h, evalsJ_ok]
  refine out_bind _ _ _ _ _ fun args => ?_
  show _ = ko (.call f (([] ++ args) ++ []))
  rw [List.append_nil, List.nil_append]
theorem callee_ok (x : Operand) (l : List Operand) : (calleeJ P x (evalsJ l)).run a s kv ko =
    optO ((evals a l).bind fun args => (a.eval x).bind fun f => (asFunc f).bind fun q => invokeFn P s q.1 q.2.2 (q.2.1 ++ args)) kv ko := by
  cases x with
  | func f => exact stat_ok a s kv ko f l
  | tmp t => exact val_ok (P := P) a s kv ko (.tmp t) l
  | const v => exact val_ok (P := P) a s kv ko (.const v) l
  | global g => exact val_ok (P := P) a s kv ko (.global g) l
theorem inv_ok (x : Operand) (name : String) (l : List Operand) : (invX P (opdJ x) name (evalsJ l)).run a s kv ko =
    optO ((evals a l).bind fun args => (a.eval x).bind fun r => invokeM P s name (r :: args)) kv ko := by
  have h : (invX P (opdJ x) name (evalsJ l)).run a s kv ko = (evalsJ l).ev a fun l => (opdJ x).ev a fun r => optO (invokeM P s name (r :: l)) kv ko := by cases opdJ x; cases evalsJ l; rfl
  rw [h, evalsJ_ok]
  refine out_bind _ _ _ _ _ fun args => ?_
  rw [opdJ_ok]
  exact out_bind _ _ _ _ _ fun f => rfl
theorem call_ok (c : Call) : (callJ P c).run a s kv ko = optO ((evals a c.args.toList).bind (callV P a s c)) kv ko := by
  unfold callJ
  obtain ⟨callee, args, ts⟩ := c
  cases callee with
  | value f => exact callee_ok a s kv ko f args.toList
  | invoke r name => exact inv_ok a s kv ko r name args.toList
  | builtin b =>
    cases hb : isLen b with
    | false =>
      refine Eq.trans ?_ (bi_ok (P := P) a s kv ko b ts args.toList)
      show (@Bool.rec (fun _ => XB) (biX P b ts (evalsJ args.toList)) (lenX (evalsJ args.toList) (lenJ P ts)) (isLen b)).run a s kv ko = _
      rw [hb]
    | true =>
      have : b = .len := by cases b <;> first | rfl | cases hb
      subst this
      exact len_ok a s kv ko ts args.toList
theorem defer_ok (c : Call) : (deferX c (evalsJ c.args.toList)).run a s kv ko = optO ((evals a c.args.toList).bind (deferV a c)) kv ko := by
  have h : (deferX c (evalsJ c.args.toList)).run a s kv ko = (evalsJ c.args.toList).ev a fun l => optO (deferV a c l) kv ko := by cases evalsJ c.args.toList; rfl
  rw [h, evalsJ_ok]
  exact out_bind _ _ _ _ _ fun l => rfl
theorem panic_ok (x : Operand) : (panicX (opdJ x)).run a s kv ko = optO ((a.eval x).bind panicV) kv ko := by
  have h : (panicX (opdJ x)).run a s kv ko = (opdJ x).ev a fun v => optO (panicV v) kv ko := by cases opdJ x; rfl
  rw [h, opdJ_ok]
  exact out_bind _ _ _ _ _ fun l => rfl

/-- EACH OPERATION -/
theorem xJ_ok (o : Op) : (xJ P o).run a s kv ko = optO (execA P a s o) kv ko := by
  cases o with
  | move x => exact mv_ok a s kv ko x
  | assign x => exact mv_ok a s kv ko x
  | pick c x y => exact pick_ok a s kv ko c x y
  | alloc t => exact alloc_ok a s kv ko t
  | box t x => exact box_ok a s kv ko x
  | build t ps => exact build_ok a s kv ko t ps.toList
  | buildSlice t n ps => exact buildSlice_ok a s kv ko t n ps.toList
  | insert t m k x => exact mapUp_ok a s kv ko t m k x
  | load t x => exact load_ok a s kv ko t x
  | store t x y => exact store_ok a s kv ko t x y
  | nilCheck x => exact nil_ok a s kv ko x
  | binOp op t x y t' => exact bin_ok a s kv ko _ op t x y
  | unOp op t x => exact un_ok a s kv ko op x
  | convert src dst x => exact conv_ok a s kv ko src dst x
  | makeInterface t x => exact iface_ok a s kv ko t x
  | makeFunc fn f c => exact func_ok a s kv ko fn f.toList c.toList
  | makeMap t r => exact map_ok a s kv ko r
  | makeSlice t l c => exact mkSlice_ok a s kv ko t l c
  | slice t x lo hi mx => exact slice_ok a s kv ko t x lo hi mx
  | fieldAddr t x f => exact faddr_ok a s kv ko t x f
  | field t x f => exact field_ok a s kv ko t x f
  | indexAddr t x i => exact iaddr_ok a s kv ko t x i
  | index t x i => exact index_ok a s kv ko t x i
  | lookup t x k ok => exact look_ok a s kv ko t x k ok
  | mapUpdate t m k x => exact mapUp_ok a s kv ko t m k x
  | range t x => exact range_ok a s kv ko t x
  | next x i => exact next_ok a s kv ko x i
  | entry x => exact entry_ok a s kv ko x
  | typeAssert x t' t ok => exact assert_ok a s kv ko x t ok
  | extract x i => exact extract_ok a s kv ko x i
  | call c => exact call_ok a s kv ko c
  | defer c => exact defer_ok a s kv ko c
  | panic x => exact panic_ok a s kv ko x
  | _ => rfl
end
end Go.Ev.K
