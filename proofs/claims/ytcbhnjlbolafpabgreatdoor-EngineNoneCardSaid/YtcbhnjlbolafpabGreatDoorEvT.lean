/- How a frame of the machine stands for an activation of the evaluator; the forms of the control laws. -/
import Derived.Test.YtcbhnjlbolafpabGreatDoorEvS
import Derived.Defers
import Derived.Recover
import Derived.AtR
import Derived.RangeFuncIn
set_option linter.unusedSimpArgs false
set_option linter.unusedVariables false
namespace Go.Ev

inductive RPs (φ : Phi) : List PE → List PanicEntry → Prop
  | nil : RPs φ [] []
  | cons (v : V) (r : Bool) (u : Value) (l : List PE) (m : List PanicEntry) : Rv φ v u → RPs φ l m → RPs φ (⟨v, r⟩ :: l) ({ v := u, recovered := r } :: m)
theorem RPs.mono {φ φ' : Phi} (h : PLe φ φ') : ∀ {l : List PE} {m : List PanicEntry}, RPs φ l m → RPs φ' l m
  | _, _, .nil => .nil
  | _, _, .cons v r u l m hv hl => .cons v r u l m (hv.mono h) (RPs.mono h hl)
theorem RPs.append {φ : Phi} : ∀ {l l' : List PE} {m m' : List PanicEntry}, RPs φ l m → RPs φ l' m' → RPs φ (l ++ l') (m ++ m')
  | _, _, _, _, .nil, h => h
  | _, _, _, _, .cons v r u l m hv hl, h => .cons v r u _ _ hv (RPs.append hl h)
theorem RPs.ne {φ : Phi} {l : List PE} {m : List PanicEntry} (h : RPs φ l m) (hl : l ≠ []) : m ≠ [] := by
  cases h with
  | nil => exact absurd rfl hl
  | cons => simp
theorem RPs.eq_nil {φ : Phi} {m : List PanicEntry} (h : RPs φ [] m) : m = [] := by cases h; rfl
theorem RPs.noGoexit {φ : Phi} : ∀ {l : List PE} {m : List PanicEntry}, RPs φ l m → m.dropWhile (!·.goexit) = []
  | _, _, .nil => rfl
  | _, _, .cons v r u l m hv hl => by simpa using hl.noGoexit

/-- what a frame does that has 'u' to pass up -/
def um : List PanicEntry → FrameMode
  | [] => .returning
  | l => .panicking l
theorem um_ne (l : List PanicEntry) : um l ≠ .run := by cases l <;> simp [um]
theorem um_of_ne {l : List PanicEntry} (h : l ≠ []) : um l = .panicking l := by cases l <;> simp_all [um]

/-- who waits for the frame -/
inductive Cx where
  | norm (cs : List Frame)
  | dfr (c : Frame) (cs : List Frame)
def Cx.list : Cx → List PanicEntry → List Frame
  | .norm cs, _ => cs
  | .dfr c cs, u => { c with mode := um u } :: cs
def Cx.kind : Cx → CallKind
  | .norm _ => .normal
  | .dfr .. => .deferred
def RRc (φ : Phi) : Option (List PE) → Cx → List PanicEntry → Prop
  | none, .norm _, _ => True
  | some l, .dfr _ _, u => RPs φ l u
  | _, _, _ => False
theorem RRc.mono {φ φ' : Phi} (h : PLe φ φ') {rc : Option (List PE)} {X : Cx} {u : List PanicEntry} (r : RRc φ rc X u) : RRc φ' rc X u := by
  cases rc <;> cases X <;> first | exact r | exact RPs.mono h r

def Ro (φ : Phi) : Option Nat → Option Nat → Prop
  | none, none => True
  | some l, some B => ∃ L, φ l = some L ∧ L.blk = B
  | _, _ => False
theorem Ro.mono {φ φ' : Phi} (h : PLe φ φ') {a b : Option Nat} (r : Ro φ a b) : Ro φ' a b := by
  cases a <;> cases b <;> first | exact r | (obtain ⟨L, h1, h2⟩ := r; exact ⟨L, h _ _ h1, h2⟩)

def REnd (φ : Phi) : End → Ending → Prop
  | .ret v, .returned u => Rv φ v u
  | .pan ch, .panicked chain => ch ≠ [] ∧ RPs φ ch chain
  | _, _ => False

def Post (φ : Phi) (s : St) (w : World) (s' : St) (e : End) : Ending → World → Prop :=
  fun e' w' => ∃ φ', Rh φ' s' w' ∧ Ext φ s w φ' s' w' ∧ REnd φ' e e'
theorem Post.ext {φ φ₁ : Phi} {s s₁ s' : St} {w w₁ : World} {e : End} (h : Ext φ s w φ₁ s₁ w₁) {e' : Ending} {w' : World} (p : Post φ₁ s₁ w₁ s' e e' w') : Post φ s w s' e e' w' := by
  obtain ⟨φ', h1, h2, h3⟩ := p
  exact ⟨φ', h1, h.trans h2, h3⟩

section
variable (P : Program)
/-- a call's answer -/
def Done (res : Result Next) (R : Ending → World → Prop) : Prop :=
  (∃ u w', res = .ok (.value u) w' ∧ R (.returned u) w') ∨ ∃ g us w1, res = .ok (.enter g us) w1 ∧ Calls P g us w1 R

def NoCall : List Item → Prop
  | .call .. :: _ => False
  | _ => True
/-- where the machine is behind a piece of code that ended so -/
def Arr (φ : Phi) (m : Machine) (b : Frame) (k : List Item) (cs : List Frame) (ca : Go.Act) (w : World) : Ex → Prop
  | .norm => Steps P m (lone (b.atR ca k) cs w)
  | .exit id => ∃ pre, (∀ k', exitTo id (pre ++ k') = exitTo id k') ∧ Steps P m (lone (b.atR ca (.code (.exit id) :: (pre ++ k))) cs w)
  | .ret => ∃ todo, Steps P m (lone (b.atR ca (.code .ret :: todo)) cs w)
  | .pan ch => ∃ todo chain, ch ≠ [] ∧ RPs φ ch chain ∧ NoCall todo ∧ Steps P m (lone { b.atR ca todo with mode := .panicking chain } cs w)

/-- how a frame may stand -/
structure Pre (φ : Phi) (s : St) (w : World) (ro : Option Nat) (a : Act) (b : Frame) (ca : Go.Act) (X : Cx) (u : List PanicEntry) : Prop where
  hh : Rh φ s w
  ha : Ra φ a ca
  hrc : RRc φ a.rc X u
  hk : b.kind = X.kind
  hro : Ro φ ro b.roundOf

/-- what is asked of a piece of code that the evaluator has run -/
def Cc (φ : Phi) (s : St) (w : World) (ro : Option Nat) (b : Frame) (k : List Item) (X : Cx) (m : Machine) (x : Ex × Act × St) : Prop :=
  ∃ φ' w' ca' u', Pre φ' x.2.2 w' ro x.2.1 b ca' X u' ∧ Ext φ s w φ' x.2.2 w' ∧ Arr P φ' m b k (X.list u') ca' w' x.1

/-- one piece of code -/
def CodeC (r : R) (c : Code) : Prop := ∀ {ro : Option Nat} {a : Act} {s : St} {x : Ex × Act × St}, codeF P r ro c a s = some x → ∀ {φ : Phi} {w : World} {b : Frame} {ca : Go.Act} {k : List Item} {X : Cx} {u : List PanicEntry},
    Pre φ s w ro a b ca X u → Fresh φ s.next x.2.2.next → Cc P φ s w ro b k X (lone (b.atR ca (.code c :: k)) (X.list u) w) x

def CallS (r : R) : Prop := ∀ {f args s e rc' s'}, r.call f args none s = some (e, rc', s') → ∀ {φ w us}, Rh φ s w → RvL φ args us → Fresh φ s.next s'.next →
  Done P ((callFunc f ⟨us⟩).run P w) (Post φ s w s' e)

def CallDS (r : R) : Prop := ∀ {f args l s e rc' s'}, r.call f args (some l) s = some (e, rc', s') → ∀ {φ w us u}, Rh φ s w → RvL φ args us → RPs φ l u → Fresh φ s.next s'.next →
  (callFunc f ⟨us⟩).run P w = .ok (.enter f ⟨us⟩) w ∧ ∃ l', rc' = some l' ∧ ∀ (c : Frame) (cs : List Frame), ∃ φ' w' u' fr e', Rh φ' s' w' ∧ Ext φ s w φ' s' w' ∧ REnd φ' e e' ∧ RPs φ' l' u' ∧
    Steps P (lone (Frame.enter P f ⟨us⟩ .deferred) ({ c with mode := um u } :: cs) w) (lone fr ({ c with mode := um u' } :: cs) w') ∧ fr.kind = .deferred ∧ fr.going P w' e'

def Land (fr : Frame) (cs : List Frame) (m : Machine) : Ending → World → Prop
  | .returned u, w' => Steps P m (lone (fr.finish u) cs w')
  | .panicked chain, w' => Steps P m (lone (fr.raise chain) cs w')
  | .outgrown, _ => False

def RoundS (r : R) : Prop := ∀ {l args s e s'}, r.round l args s = some (e, s') → ∀ {φ w us L}, φ l = some L → Rh φ s w → RvL φ args us → Fresh φ s.next s'.next →
  ∃ lf tm asg body, (Instr.yield L.blk ⟨us⟩).run P w = .ok (.round L.blk lf tm asg body) w ∧ ∀ fr cs, ∃ e' w', Post φ s w s' e e' w' ∧
    Land P fr cs (lone (Frame.round L.blk lf tm asg body .normal) (fr :: cs) w) e' w'

def LeaveS (r : R) : Prop := ∀ {f tm ds u s e s'}, r.leave f tm ds u s = some (e, s') → ∀ {φ w fr cs size chain}, Rh φ s w → fr.fn = f → (∃ fn, P.funcs[f]? = some fn) → RT φ tm size fr.tmps →
  RDs φ ds fr.defers → RPs φ (u.getD []) chain → u ≠ some [] → fr.mode = um chain → Fresh φ s.next s'.next →
  ∃ φ' w' fr' e', Rh φ' s' w' ∧ Ext φ s w φ' s' w' ∧ REnd φ' e e' ∧ Steps P (lone fr cs w) (lone fr' cs w') ∧ fr'.fn = f ∧ fr'.kind = fr.kind ∧ fr'.going P w' e'

structure Sound (r : R) : Prop where
  call : CallS P r
  callD : CallDS P r
  round : RoundS P r
  leave : LeaveS P r

/-- a contract for what the evaluator takes on trust -/
def HookS (hook : Hook) : Prop := ∀ {f args s v s'}, hook f args s = some (some (v, s')) → ∀ {φ w us}, Rh φ s w → RvL φ args us → Fresh φ s.next s'.next →
  Done P ((callFunc f ⟨us⟩).run P w) (Post φ s w s' (.ret v))
/-- a drawn region, whatever order is drawn -/
def DrawS (r : R) : Prop := ∀ {ro id a s x} {ops : Array Oper}, drawnF P r ro ops.toList a s = some x →
  ∀ {φ w b ca k X u}, Pre φ s w ro a b ca X u → Fresh φ s.next x.2.2.next →
  Cc P φ s w ro b k X (lone (b.atR ca (.code (.region id ops true) :: k)) (X.list u) w) x
end

section
variable {P : Program}
theorem Arr.of_steps {φ : Phi} {m m₁ : Machine} {b : Frame} {k : List Item} {cs : List Frame} {ca : Go.Act} {w : World} {e : Ex} (h : Steps P m m₁) (h' : Arr P φ m₁ b k cs ca w e) : Arr P φ m b k cs ca w e := by
  cases e with
  | norm => exact h.trans h'
  | exit id => obtain ⟨pre, h1, h2⟩ := h'; exact ⟨pre, h1, h.trans h2⟩
  | ret => obtain ⟨todo, h2⟩ := h'; exact ⟨todo, h.trans h2⟩
  | pan ch => obtain ⟨todo, chain, h0, h1, hn, h2⟩ := h'; exact ⟨todo, chain, h0, h1, hn, h.trans h2⟩
theorem Cc.of_steps {φ : Phi} {s : St} {w : World} {ro : Option Nat} {b : Frame} {k : List Item} {X : Cx} {m m₁ : Machine} {x : Ex × Act × St} (h : Steps P m m₁) (h' : Cc P φ s w ro b k X m₁ x) :
    Cc P φ s w ro b k X m x := by
  obtain ⟨φ', w', ca', u', h1, h2, h3⟩ := h'
  exact ⟨φ', w', ca', u', h1, h2, .of_steps h h3⟩
theorem Cc.ext {φ φ₁ : Phi} {s s₁ : St} {w w₁ : World} {ro : Option Nat} {b : Frame} {k : List Item} {X : Cx} {m : Machine} {x : Ex × Act × St} (h : Ext φ s w φ₁ s₁ w₁) (h' : Cc P φ₁ s₁ w₁ ro b k X m x) :
    Cc P φ s w ro b k X m x := by
  obtain ⟨φ', w', ca', u', h1, h2, h3⟩ := h'
  exact ⟨φ', w', ca', u', h1, h.trans h2, h3⟩
/-- where the code of one item is left by a jump, the items behind it do not count -/
theorem Arr.pass {φ : Phi} {m : Machine} {b : Frame} {k : List Item} {i : Item} {cs : List Frame} {ca : Go.Act} {w : World} {e : Ex} (hi : ∀ id k', exitTo id (i :: k') = exitTo id k') (hn : e ≠ .norm)
    (h : Arr P φ m b (i :: k) cs ca w e) : Arr P φ m b k cs ca w e := by
  cases e with
  | norm => exact absurd rfl hn
  | exit id => obtain ⟨pre, h1, h2⟩ := h; exact ⟨pre ++ [i], fun k' => by simp [h1, hi], by simpa using h2⟩
  | ret => exact h
  | pan ch => exact h
theorem Cc.pass {φ : Phi} {s : St} {w : World} {ro : Option Nat} {b : Frame} {k : List Item} {i : Item} {X : Cx} {m : Machine} {x : Ex × Act × St} (hi : ∀ id k', exitTo id (i :: k') = exitTo id k') (hn : x.1 ≠ .norm)
    (h : Cc P φ s w ro b (i :: k) X m x) : Cc P φ s w ro b k X m x := by
  obtain ⟨φ', w', ca', u', h1, h2, h3⟩ := h
  exact ⟨φ', w', ca', u', h1, h2, h3.pass hi hn⟩

/-- one piece of code behind another -/
theorem seq_sound {φ : Phi} {s : St} {w : World} {ro : Option Nat} {b : Frame} {k : List Item} {i : Item} {X : Cx} {m : Machine} {x₁ : Res} {κ : Act → St → Res} {x : Ex × Act × St}
    (hi : ∀ id k', exitTo id (i :: k') = exitTo id k') (hx : andThen x₁ κ = some x) (hnx : ∀ e a s', x₁ = some (e, a, s') → s.next ≤ s'.next) (hkx : ∀ a s', κ a s' = some x → s'.next ≤ x.2.2.next)
    (hf : Fresh φ s.next x.2.2.next) (h1 : ∀ y, x₁ = some y → Fresh φ s.next y.2.2.next → Cc P φ s w ro b (i :: k) X m y)
    (h2 : ∀ a s' φ' w' ca' u', κ a s' = some x → Pre φ' s' w' ro a b ca' X u' → Fresh φ' s'.next x.2.2.next → Cc P φ' s' w' ro b k X (lone (b.atR ca' (i :: k)) (X.list u') w') x) :
    Cc P φ s w ro b k X m x := by
  unfold andThen at hx
  split at hx
  · rename_i a s'
    have hle := hkx _ _ hx
    obtain ⟨φ', w', ca', u', g1, g2, g3⟩ := h1 _ rfl (hf.sub (Nat.le_refl _) hle)
    exact (Cc.of_steps g3 (h2 a s' φ' w' ca' u' hx g1 (hf.ext g2))).ext g2
  · rename_i hne
    obtain ⟨e, a, s'⟩ := x
    refine (h1 _ hx hf).pass hi ?_
    rintro rfl
    exact hne _ _ hx
end
end Go.Ev
