/- Operations that may stand elsewhere in a drawn region: what they look at, what they make. -/
import Derived.Test.YtcbhnjlbolafpabGreatDoorEvY
set_option linter.unusedSimpArgs false
set_option linter.unusedVariables false
namespace Go.Ev
section
variable {P : Program}

theorem evals_congr {a a' : Act} : ∀ {l : List Operand}, (∀ x ∈ l, a.eval x = a'.eval x) → evals a l = evals a' l
  | [], _ => rfl
  | x :: l, h => by
    unfold evals
    rw [h x (by simp), evals_congr (l := l) fun y hy => h y (by simp [hy])]
theorem evalP_congr {a a' : Act} : ∀ {l : List (Nat × Operand)}, (∀ x ∈ l.map (·.2), a.eval x = a'.eval x) → evalP a l = evalP a' l
  | [], _ => rfl
  | (i, x) :: l, h => by
    unfold evalP
    rw [h x (by simp), evalP_congr (l := l) fun y hy => h y (by simp at hy ⊢; exact .inr hy)]
theorem evalO_congr {a a' : Act} {l : Option Operand} (h : ∀ x ∈ l.toList, a.eval x = a'.eval x) : evalO a l = evalO a' l := by
  cases l with
  | none => rfl
  | some x => simp only [evalO]; rw [h x (by simp)]

theorem execA_congr {a a' : Act} {op : Op} (h : ∀ x ∈ op.operands.toList, a.eval x = a'.eval x) (s : St) : execA P a s op = execA P a' s op := by
  cases op <;> simp only [execA] <;> try rfl
  case move x => rw [h x (by simp [Op.operands])]
  case assign x => rw [h x (by simp [Op.operands])]
  case pick c x y =>
    have h1 := h c (by simp [Op.operands]); have h2 := h x (by simp [Op.operands]); have h3 := h y (by simp [Op.operands])
    unfold pickV; rw [h1, h2, h3]
  case box t x => rw [h x (by simp [Op.operands])]
  case build t ps => rw [evalP_congr fun x hx => h x (by simpa [Op.operands] using hx)]
  case buildSlice t n ps => rw [evalP_congr fun x hx => h x (by simpa [Op.operands] using hx)]
  case load t x => rw [h x (by simp [Op.operands])]
  case store t x y => rw [h x (by simp [Op.operands]), h y (by simp [Op.operands])]
  case nilCheck x => rw [h x (by simp [Op.operands])]
  case binOp o t x y ty => rw [h x (by simp [Op.operands]), h y (by simp [Op.operands])]
  case unOp o t x => rw [h x (by simp [Op.operands])]
  case convert s d x => rw [h x (by simp [Op.operands])]
  case makeInterface t x => rw [h x (by simp [Op.operands])]
  case makeFunc f x y => rw [evals_congr (l := x.toList) fun z hz => h z (by simp [Op.operands] at hz ⊢; exact .inl hz), evals_congr (l := y.toList) fun z hz => h z (by simp [Op.operands] at hz ⊢; exact .inr hz)]
  case makeSlice t x y => rw [h x (by simp [Op.operands]), h y (by simp [Op.operands])]
  case slice t x lo hi mx =>
    rw [h x (by simp [Op.operands]), evalO_congr (l := lo) fun z hz => h z (by simp [Op.operands] at hz ⊢; simp [hz]), evalO_congr (l := hi) fun z hz => h z (by simp [Op.operands] at hz ⊢; simp [hz]),
      evalO_congr (l := mx) fun z hz => h z (by simp [Op.operands] at hz ⊢; simp [hz])]
  case fieldAddr t x f => rw [h x (by simp [Op.operands])]
  case field t x f => rw [h x (by simp [Op.operands])]
  case indexAddr t x y => rw [h x (by simp [Op.operands]), h y (by simp [Op.operands])]
  case index t x y => rw [h x (by simp [Op.operands]), h y (by simp [Op.operands])]
  case lookup t x y ok => rw [h x (by simp [Op.operands]), h y (by simp [Op.operands])]
  case mapUpdate t x y z => rw [h x (by simp [Op.operands]), h y (by simp [Op.operands]), h z (by simp [Op.operands])]
  case insert t x y z => rw [h x (by simp [Op.operands]), h y (by simp [Op.operands]), h z (by simp [Op.operands])]
  case range t x => rw [h x (by simp [Op.operands])]
  case next x i => rw [h x (by simp [Op.operands])]
  case entry x => rw [h x (by simp [Op.operands])]
  case typeAssert x t u ok => rw [h x (by simp [Op.operands])]
  case extract x i => rw [h x (by simp [Op.operands])]
  case panic x => rw [h x (by simp [Op.operands])]
  case call c =>
    rw [evals_congr (l := c.args.toList) fun z hz => h z (by simp [Op.operands, Call.operands] at hz ⊢; exact .inr hz)]
    congr 1; funext args
    unfold callV
    cases hc : c.callee with
    | builtin b => rfl
    | invoke r n => simp only; rw [h r (by simp [Op.operands, Call.operands, hc])]
    | value f => simp only; rw [h f (by simp [Op.operands, Call.operands, hc])]
  case defer c =>
    rw [evals_congr (l := c.args.toList) fun z hz => h z (by simp [Op.operands, Call.operands] at hz ⊢; exact .inr hz)]
    congr 1; funext args
    unfold deferV
    cases hc : c.callee with
    | builtin b => rfl
    | invoke r n => rfl
    | value f => simp only; rw [h f (by simp [Op.operands, Call.operands, hc])]

/-- it does not look at memory, and makes one block at most -/
def Ind (f : St → Option Out) : Prop := ∀ s out, f s = some out →
  (∃ v, out = .val v s ∧ ∀ s2, f s2 = some (.val v s2)) ∨
  ∃ v x b s', x.live ∧ s.new x = some (b, s') ∧ out = .val v s' ∧ ∀ s2 : St, s2.next = s.next → ∃ s2', s2.new x = some (b, s2') ∧ f s2 = some (.val v s2')

theorem Ind.pure (g : Option V) : Ind (fun s => pureO s g) := fun s out h => by
  obtain ⟨v, hv, rfl⟩ := Option.map_some'.1 h
  exact .inl ⟨v, rfl, fun s2 => by simp only [pureO, hv, Option.map_some]⟩
theorem Ind.no : Ind (fun _ => none) := fun s out h => by cases h
theorem new_any {s s' : St} {x : Blk} {b : Nat} (h : s.new x = some (b, s')) {s2 : St} (h2 : s2.next = s.next) : ∃ s2', s2.new x = some (b, s2') := by
  unfold St.new at h ⊢
  rw [cond_some] at h
  obtain ⟨h0, h⟩ := h
  cases h
  rw [h2, h0, cond_true]
  exact ⟨_, rfl⟩
theorem Ind.new (x : Blk) (hx : x.live) (k : Nat × St → V × St) (kv : Nat → V) (hk : ∀ b s, k (b, s) = (kv b, s)) : Ind (fun s => memO ((s.new x).map k)) := fun s out h => by
  obtain ⟨⟨v, s1⟩, hv, rfl⟩ := Option.map_some'.1 h
  obtain ⟨⟨b, s'⟩, hb, he⟩ := Option.map_some'.1 hv
  rw [hk] at he
  cases he
  refine .inr ⟨kv b, x, b, _, hx, hb, rfl, fun s2 h2 => ?_⟩
  obtain ⟨s2', h2'⟩ := new_any hb h2
  exact ⟨s2', h2', by simp [memO, h2', hk]⟩
theorem Ind.row (cs : List V) (y : Bool) (e : Nat) (k : Nat × St → V × St) (kv : Nat → V) (hk : ∀ b s, k (b, s) = (kv b, s)) : Ind (fun s => memO ((s.newRow cs y e).map k)) := by
  unfold St.newRow
  cases hc : allOne cs with
  | false => intro s out h; cases h
  | true => exact Ind.new (.cells cs y e) trivial k kv hk
theorem Ind.bind {α : Type} (x : Option α) (g : α → St → Option (V × St)) (h : ∀ y, Ind (fun s => memO (g y s))) : Ind (fun s => memO (x.bind fun y => g y s)) := by
  cases x with
  | none => intro s out h; cases h
  | some y => exact h y
theorem Ind.cond (c : Bool) (g : St → Option (V × St)) (h : Ind (fun s => memO (g s))) : Ind (fun s => memO (bif c then g s else Option.none)) := by
  cases c with
  | true => exact h
  | false => intro s out h; cases h
theorem Ind.keep (g : Option V) : Ind (fun s => memO (g.map fun v => (v, s))) := fun s out h => by
  obtain ⟨⟨v, s1⟩, hv, rfl⟩ := Option.map_some'.1 h
  obtain ⟨v', hv', he⟩ := Option.map_some'.1 hv
  cases he
  exact .inl ⟨v, rfl, fun s2 => by simp [memO, hv']⟩

theorem convert_ind {src dst : TypeId} {x : V} (hr : isSliceD (P.underlying src) = false) : Ind (fun s => memO (convertV P s src dst x)) := by
  intro s out h
  unfold convertV at h ⊢
  generalize P.underlying src = ds at *
  generalize P.underlying dst = dd at *
  split at h
  · exact Ind.keep (some _) s out h
  · exact Ind.keep (some _) s out h
  · exact Ind.cond _ _ (Ind.row _ _ _ _ (fun b => .slice b 0 _ _ true) fun _ _ => rfl) s out h
  · simp [isSliceD] at hr
  · simp [isSliceD] at hr
  · cases h

theorem ind_sound {a : Act} {op : Op} (hc : isChain P op = false) (hr : readsO P op = false) : Ind (fun s => execA P a s op) := by
  cases op <;> simp only [execA] <;> (try exact Ind.no) <;> (try exact Ind.pure _) <;> (try (simp [isChain, isChain0] at hc; done)) <;> (try (simp [readsO, reads] at hr; done))
  case alloc t => exact Ind.bind _ _ fun z => Ind.row _ _ _ _ (fun b => .ptr b 0) fun _ _ => rfl
  case box t x => exact Ind.bind _ _ fun z => Ind.row _ _ _ _ (fun b => .ptr b 0) fun _ _ => rfl
  case buildSlice t n ps =>
    refine Ind.bind _ _ fun ps' => ?_
    unfold buildSliceV
    exact Ind.bind _ _ fun e => Ind.bind _ _ fun m => Ind.bind _ _ fun z => Ind.cond _ _ (Ind.bind _ _ fun cs => Ind.row _ _ _ _ (fun b => .slice b 0 n n false) fun _ _ => rfl)
  case convert src dst x =>
    exact Ind.bind _ _ fun v => convert_ind hr
  case makeMap t r =>
    cases r with
    | none => exact Ind.new (.map [] (some ([], 0))) trivial _ (fun b => .map b) fun _ _ => rfl
    | some _ => intro s out h; cases h
  case makeSlice t l c =>
    refine Ind.bind _ _ fun l' => Ind.bind _ _ fun c' => ?_
    unfold makeSliceV
    exact Ind.bind _ _ fun e => Ind.bind _ _ fun m => Ind.bind _ _ fun z => Ind.bind _ _ fun i => Ind.bind _ _ fun l => Ind.bind _ _ fun c => Ind.cond _ _ (Ind.row _ _ _ _ (fun b => .slice b 0 l c false) fun _ _ => rfl)

/-- it looks at memory, and makes nothing -/
theorem read_sound {a : Act} {op : Op} {s : St} {out : Out} (hc : isChain P op = false) (hr : readsO P op = true) (h : execA P a s op = some out) : ∃ v, out = .val v s := by
  cases op <;> simp only [execA] at h <;> (try (cases h; done)) <;> (try (obtain ⟨v, _, rfl⟩ := Option.map_some'.1 h; exact ⟨v, rfl⟩)) <;> (try (simp [isChain, isChain0] at hc; done)) <;> (try (simp [readsO, reads] at hr; done))
  case convert src dst x =>
    obtain ⟨⟨v, s1⟩, hv, rfl⟩ := Option.map_some'.1 h
    obtain ⟨v', hv', hv⟩ := Option.bind_some'.1 hv
    simp only [isChain, readsO] at hc hr
    rw [hr, Bool.true_and] at hc
    unfold convertV at hv
    generalize P.underlying src = ds at *
    generalize P.underlying dst = dd at *
    split at hv
    · cases hv; exact ⟨_, rfl⟩
    · cases hv; exact ⟨_, rfl⟩
    · simp [isSliceD] at hc
    · simp [isSliceD] at hc
    · rw [cond_some] at hv
      obtain ⟨_, hv⟩ := hv
      simp only [Option.bind_some'] at hv
      obtain ⟨_, _, _, _, hv⟩ := hv
      obtain ⟨_, _, hv⟩ := Option.map_some'.1 hv
      cases hv; exact ⟨_, rfl⟩
    · cases hv
  case call c =>
    obtain ⟨args, _, h⟩ := Option.bind_some'.1 h
    have hb : c.callee = .builtin .len := by
      obtain ⟨callee, cargs, ats⟩ := c
      simp only [isChain] at hc
      unfold isChain0 at hc
      split at hc <;> simp_all
    unfold callV at h
    rw [hb] at h
    simp only at h
    unfold builtinV at h
    split at h
    · simp only [builtin1] at h
      obtain ⟨v, _, rfl⟩ := Option.map_some'.1 h
      exact ⟨v, rfl⟩
    · cases h
    · cases h
end
end Go.Ev
