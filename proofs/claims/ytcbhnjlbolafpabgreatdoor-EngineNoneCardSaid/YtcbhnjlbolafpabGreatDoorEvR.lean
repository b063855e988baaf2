/- The evaluator's states never let a number of a block go: the next one only grows. -/
import Derived.Test.YtcbhnjlbolafpabGreatDoorEvQ
set_option linter.unusedSimpArgs false
set_option linter.unusedVariables false
namespace Go.Ev
section
variable {P : Program}

def Mn {α : Type} (s : St) (f : α → St) (r : Option α) : Prop := ∀ x, r = some x → s.next ≤ (f x).next

theorem Mn.none {α : Type} {s : St} {f : α → St} : Mn s f none := fun _ h => by cases h
theorem Mn.some {α : Type} {s : St} {f : α → St} {x : α} (h : s.next ≤ (f x).next) : Mn s f (some x) := fun _ e => by cases e; exact h
theorem Mn.bind {α β : Type} {s : St} {f : β → St} {x : Option α} {k : α → Option β} (h : ∀ a, x = Option.some a → Mn s f (k a)) : Mn s f (x.bind k) := fun y e => by
  obtain ⟨a, ha, hk⟩ := Option.bind_some'.1 e
  exact h a ha y hk
theorem Mn.map {α β : Type} {s : St} {f : β → St} {x : Option α} {k : α → β} (h : ∀ a, x = Option.some a → s.next ≤ (f (k a)).next) : Mn s f (x.map k) := fun y e => by
  obtain ⟨a, ha, hk⟩ := Option.map_some'.1 e
  rw [← hk]; exact h a ha
theorem Mn.cond {α : Type} {s : St} {f : α → St} {c : Bool} {x y : Option α} (h : Mn s f x) (h' : Mn s f y) : Mn s f (bif c then x else y) := by
  cases c <;> assumption

theorem St.set_next (s : St) (b : Nat) (x : Blk) : (s.set b x).next = s.next := rfl
theorem new_next {s s' : St} {x : Blk} {b : Nat} (h : s.new x = some (b, s')) : s.next ≤ s'.next := by
  obtain ⟨_, h, _⟩ := St.new_spec h; omega
theorem newRow_next {s s' : St} {cs : List V} {x : Bool} {e b : Nat} (h : s.newRow cs x e = some (b, s')) : s.next ≤ s'.next := by
  unfold St.newRow at h
  rw [cond_some] at h
  exact new_next h.2
theorem write_next {s s' : St} {b o : Nat} {vs : List V} (h : s.write b o vs = some s') : s.next ≤ s'.next := by
  unfold St.write at h
  obtain ⟨x, _, h⟩ := Option.bind_some'.1 h
  obtain ⟨y, _, rfl⟩ := Option.map_some'.1 h
  exact Nat.le_refl _

theorem cond_next (c : Bool) (s : St) (b : Nat) : s.next ≤ (bif c then s.set b .dead else s).next := by cases c <;> exact Nat.le_refl _

theorem stVar_next {s s' : St} {t : TypeId} {b o : Nat} {v : V} (h : stVar P s t b o v = some s') : s.next ≤ s'.next := by
  revert h; show _ → _; intro h
  have : Mn s id (stVar P s t b o v) := by
    unfold stVar
    refine Mn.bind fun _ _ => Mn.cond ?_ Mn.none
    exact fun x hx => write_next hx
  exact this _ h
theorem convertV_next (s : St) (src dst : TypeId) (x : V) : Mn s Prod.snd (convertV P s src dst x) := by
  unfold convertV; (repeat' first | exact Mn.none | exact Mn.some (Nat.le_refl _) | exact Nat.le_refl _ | (rename_i h; exact new_next h) | (rename_i h; exact newRow_next h) | (rename_i h; exact write_next h) | refine Mn.bind fun _ _ => ?_ | refine Mn.map fun _ _ => ?_ | refine Mn.cond ?_ ?_ | split)
theorem buildSliceV_next (s : St) (t : TypeId) (n : Nat) (ps : List (Nat × V)) : Mn s Prod.snd (buildSliceV P s t n ps) := by
  unfold buildSliceV; (repeat' first | exact Mn.none | exact Mn.some (Nat.le_refl _) | exact Nat.le_refl _ | (rename_i h; exact new_next h) | (rename_i h; exact newRow_next h) | (rename_i h; exact write_next h) | refine Mn.bind fun _ _ => ?_ | refine Mn.map fun _ _ => ?_ | refine Mn.cond ?_ ?_ | split)
theorem makeSliceV_next (s : St) (t : TypeId) (l c : V) : Mn s Prod.snd (makeSliceV P s t l c) := by
  unfold makeSliceV; (repeat' first | exact Mn.none | exact Mn.some (Nat.le_refl _) | exact Nat.le_refl _ | (rename_i h; exact new_next h) | (rename_i h; exact newRow_next h) | (rename_i h; exact write_next h) | refine Mn.bind fun _ _ => ?_ | refine Mn.map fun _ _ => ?_ | refine Mn.cond ?_ ?_ | split)
theorem mapUpdateV_next (s : St) (t : TypeId) (m k v : V) : Mn s id (mapUpdateV P s t m k v) := by
  unfold mapUpdateV; (repeat' first | exact Mn.none | exact Mn.some (Nat.le_refl _) | exact Nat.le_refl _ | (rename_i h; exact new_next h) | (rename_i h; exact newRow_next h) | (rename_i h; exact write_next h) | refine Mn.bind fun _ _ => ?_ | refine Mn.map fun _ _ => ?_ | refine Mn.cond ?_ ?_ | split)
theorem deleteV_next (s : St) (t : TypeId) (m k : V) : Mn s id (deleteV P s t m k) := by
  unfold deleteV; (repeat' first | exact Mn.none | exact Mn.some (Nat.le_refl _) | exact Nat.le_refl _ | (rename_i h; exact new_next h) | (rename_i h; exact newRow_next h) | (rename_i h; exact write_next h) | refine Mn.bind fun _ _ => ?_ | refine Mn.map fun _ _ => ?_ | refine Mn.cond ?_ ?_ | split)
theorem rangeV_next (s : St) (t : TypeId) (x : V) : Mn s Prod.snd (rangeV P s t x) := by
  unfold rangeV rangeMap; (repeat' first | exact Mn.none | exact Mn.some (Nat.le_refl _) | exact Nat.le_refl _ | (rename_i h; exact new_next h) | (rename_i h; exact newRow_next h) | (rename_i h; exact write_next h) | refine Mn.bind fun _ _ => ?_ | refine Mn.map fun _ _ => ?_ | refine Mn.cond ?_ ?_ | split)
theorem nextV_next (s : St) (x : V) (i : Bool) : Mn s Prod.snd (nextV s x i) := by
  unfold nextV
  refine Mn.bind fun _ _ => Mn.cond (Mn.bind fun b _ => ?_) Mn.none
  unfold nextIter nextBlind nextKnown nextLone; (repeat' first | exact Mn.none | exact Mn.some (Nat.le_refl _) | exact Nat.le_refl _ | (rename_i h; exact new_next h) | (rename_i h; exact newRow_next h) | (rename_i h; exact write_next h) | refine Mn.bind fun _ _ => ?_ | refine Mn.map fun _ _ => ?_ | refine Mn.cond ?_ ?_ | split)
theorem appendV_next (s : St) (ts : Array TypeId) (x y : V) : Mn s Prod.snd (appendV P s ts x y) := by
  unfold appendV
  refine Mn.bind fun _ _ => Mn.bind fun _ _ => Mn.bind fun _ _ => Mn.bind fun _ _ => Mn.bind fun _ _ => Mn.bind fun _ _ => Mn.cond ?_ Mn.none
  unfold appendTo
  split
  · (repeat' first | exact Mn.none | exact Mn.some (Nat.le_refl _) | exact Nat.le_refl _ | (rename_i h; exact new_next h) | (rename_i h; exact newRow_next h) | (rename_i h; exact write_next h) | refine Mn.bind fun _ _ => ?_ | refine Mn.map fun _ _ => ?_ | refine Mn.cond ?_ ?_ | split)
  · refine Mn.cond (Mn.map fun _ h => write_next h) (Mn.bind fun b _ => ?_)
    unfold growRow
    split
    · refine Mn.cond (Mn.bind fun _ _ => Mn.map fun r h => ?_) Mn.none
      refine Nat.le_trans ?_ (newRow_next h)
      exact cond_next _ _ _
    · exact Mn.none
  · refine Mn.cond (Mn.some (Nat.le_refl _)) (Mn.bind fun b _ => ?_)
    unfold growTail
    split
    · refine Mn.cond (Mn.map fun r h => ?_) Mn.none
      exact newRow_next (s := s.set _ .dead) h
    · exact Mn.none
  · exact Mn.none
theorem copyV_next (s : St) (ts : Array TypeId) (x y : V) : Mn s Prod.snd (copyV P s ts x y) := by
  unfold copyV
  refine Mn.bind fun _ _ => Mn.bind fun _ _ => Mn.bind fun _ _ => Mn.bind fun _ _ => Mn.bind fun _ _ => ?_
  unfold copyTo; (repeat' first | exact Mn.none | exact Mn.some (Nat.le_refl _) | exact Nat.le_refl _ | (rename_i h; exact new_next h) | (rename_i h; exact newRow_next h) | (rename_i h; exact write_next h) | refine Mn.bind fun _ _ => ?_ | refine Mn.map fun _ _ => ?_ | refine Mn.cond ?_ ?_ | split)
theorem clearV_next (s : St) (ts : Array TypeId) (x : V) : Mn s Prod.snd (clearV P s ts x) := by
  unfold clearV; (repeat' first | exact Mn.none | exact Mn.some (Nat.le_refl _) | exact Nat.le_refl _ | (rename_i h; exact new_next h) | (rename_i h; exact newRow_next h) | (rename_i h; exact write_next h) | refine Mn.bind fun _ _ => ?_ | refine Mn.map fun _ _ => ?_ | refine Mn.cond ?_ ?_ | split)

/-- what an operation answers -/
def OutNx (s : St) (r : Option Out) : Prop := ∀ v s', r = some (.val v s') → s.next ≤ s'.next
theorem OutNx.pure (s : St) (r : Option V) : OutNx s (pureO s r) := fun v s' h => by
  obtain ⟨x, _, e⟩ := Option.map_some'.1 h
  cases e; exact Nat.le_refl _
theorem OutNx.mem {s : St} {r : Option (V × St)} (h : Mn s Prod.snd r) : OutNx s (memO r) := fun v s' e => by
  obtain ⟨x, hx, e⟩ := Option.map_some'.1 e
  cases e; exact h _ hx
theorem OutNx.unit {s : St} {r : Option St} (h : Mn s id r) : OutNx s (unitO r) := fun v s' e => by
  obtain ⟨x, hx, e⟩ := Option.map_some'.1 e
  cases e; exact h _ hx
theorem OutNx.none {s : St} : OutNx s none := fun _ _ h => by cases h
theorem OutNx.bind {α : Type} {s : St} {x : Option α} {k : α → Option Out} (h : ∀ a, OutNx s (k a)) : OutNx s (x.bind k) := fun v s' e => by
  obtain ⟨a, _, hk⟩ := Option.bind_some'.1 e
  exact h a _ _ hk
theorem OutNx.cond {s : St} {c : Bool} {x y : Option Out} (h : OutNx s x) (h' : OutNx s y) : OutNx s (bif c then x else y) := by cases c <;> assumption

theorem invokeM_nx (s : St) (name : String) (l : List V) : OutNx s (invokeM P s name l) := fun v s' h => by
  unfold invokeM at h
  split at h
  · obtain ⟨x, _, e⟩ := Option.map_some'.1 h; cases e
  · cases h
theorem invokeFn_nx (s : St) (f : Fn) (c a : List V) : OutNx s (invokeFn P s f c a) := fun v s' h => by
  unfold invokeFn at h
  split at h
  · cases h
  · exact invokeM_nx _ _ _ _ _ h
  · cases h
  · cases h
theorem builtinV_nx (s : St) (b : Builtin) (ts : Array TypeId) (l : List V) : OutNx s (builtinV P s b ts l) := by
  have hN : OutNx s (builtinN s b l) := by
    unfold builtinN; split
    · exact OutNx.pure _ _
    · exact OutNx.pure _ _
    · intro _ _ h; cases h
    · exact OutNx.none
  unfold builtinV
  split
  · unfold builtin1; split
    · exact OutNx.mem (clearV_next _ _ _)
    · exact OutNx.pure _ _
    · exact OutNx.pure _ _
    · exact OutNx.none
  · unfold builtin2; split
    · exact OutNx.mem (appendV_next _ _ _ _)
    · exact OutNx.mem (copyV_next _ _ _ _)
    · refine OutNx.bind fun t => fun v s' h => ?_
      obtain ⟨x, hx, e⟩ := Option.map_some'.1 h
      cases e; exact deleteV_next _ _ _ _ _ hx
    · exact OutNx.pure _ _
    · exact OutNx.pure _ _
    · exact OutNx.none
  · exact hN
theorem callV_nx (a : Act) (s : St) (c : Call) (args : List V) : OutNx s (callV P a s c args) := by
  unfold callV
  split
  · exact builtinV_nx _ _ _ _
  · exact OutNx.bind fun _ => invokeM_nx _ _ _
  · exact OutNx.bind fun _ => OutNx.bind fun _ => invokeFn_nx _ _ _ _

theorem execA_nx (a : Act) (s : St) (o : Op) : OutNx s (execA P a s o) := by
  unfold execA
  split
  all_goals first
    | exact OutNx.none
    | exact OutNx.pure _ _
    | exact OutNx.mem (Mn.bind fun _ _ => Mn.map fun _ h => newRow_next h)
    | exact OutNx.mem (Mn.bind fun _ _ => buildSliceV_next _ _ _ _)
    | exact OutNx.unit (Mn.bind fun _ _ => Mn.bind fun _ _ => Mn.bind fun _ _ => fun _ h => stVar_next h)
    | exact OutNx.mem (Mn.bind fun _ _ => convertV_next _ _ _ _)
    | exact OutNx.cond (OutNx.mem (Mn.map fun _ h => new_next h)) OutNx.none
    | exact OutNx.mem (Mn.bind fun _ _ => Mn.bind fun _ _ => makeSliceV_next _ _ _ _)
    | exact OutNx.unit (Mn.bind fun _ _ => Mn.bind fun _ _ => Mn.bind fun _ _ => mapUpdateV_next _ _ _ _ _)
    | exact OutNx.mem (Mn.bind fun _ _ => rangeV_next _ _ _)
    | exact OutNx.mem (Mn.bind fun _ _ => nextV_next _ _ _)
    | exact OutNx.bind fun _ => callV_nx _ _ _ _
    | (refine OutNx.bind fun _ => fun v s' h => ?_
       unfold deferV at h
       split at h
       · obtain ⟨_, _, h⟩ := Option.bind_some'.1 h
         obtain ⟨_, _, h⟩ := Option.bind_some'.1 h
         cases h
       · cases h)
    | (refine OutNx.bind fun x => fun v s' h => ?_
       unfold panicV at h
       split at h <;> cases h)
end
end Go.Ev
