/- No run of the evaluator lets a number of a block go. -/
import Derived.Test.YtcbhnjlbolafpabGreatDoorEvR
set_option linter.unusedSimpArgs false
set_option linter.unusedVariables false
namespace Go.Ev
section
variable {P : Program}

structure NxR (r : R) : Prop where
  call : ∀ {f args rc s e rc' s'}, r.call f args rc s = some (e, rc', s') → s.next ≤ s'.next
  round : ∀ {l args s e s'}, r.round l args s = some (e, s') → s.next ≤ s'.next
  leave : ∀ {f tm ds u s e s'}, r.leave f tm ds u s = some (e, s') → s.next ≤ s'.next

def NxS (s : St) (x : Res) : Prop := ∀ e a s', x = some (e, a, s') → s.next ≤ s'.next
def NxE (s : St) (x : Option (End × St)) : Prop := ∀ e s', x = some (e, s') → s.next ≤ s'.next
def NxC (s : St) (x : Option (End × Option (List PE) × St)) : Prop := ∀ e rc s', x = some (e, rc, s') → s.next ≤ s'.next
theorem NxS.none {s : St} : NxS s none := fun _ _ _ h => by cases h
theorem NxE.none {s : St} : NxE s none := fun _ _ h => by cases h
theorem NxS.some {s s' : St} {e : Ex} {a : Act} (h : s.next ≤ s'.next) : NxS s (some (e, a, s')) := fun _ _ _ x => by cases x; exact h
theorem NxE.some {s s' : St} {e : End} (h : s.next ≤ s'.next) : NxE s (some (e, s')) := fun _ _ x => by cases x; exact h
theorem NxS.bind {α : Type} {s : St} {x : Option α} {k : α → Res} (h : ∀ y, x = Option.some y → NxS s (k y)) : NxS s (x.bind k) := fun e a s' hx => by
  obtain ⟨y, hy, hk⟩ := Option.bind_some'.1 hx
  exact h y hy _ _ _ hk
theorem NxE.bind {α : Type} {s : St} {x : Option α} {k : α → Option (End × St)} (h : ∀ y, x = Option.some y → NxE s (k y)) : NxE s (x.bind k) := fun e s' hx => by
  obtain ⟨y, hy, hk⟩ := Option.bind_some'.1 hx
  exact h y hy _ _ hk
theorem NxS.le {s s₁ : St} {x : Res} (h : NxS s₁ x) (h' : s.next ≤ s₁.next) : NxS s x := fun e a s' hx => Nat.le_trans h' (h _ _ _ hx)
theorem NxE.le {s s₁ : St} {x : Option (End × St)} (h : NxE s₁ x) (h' : s.next ≤ s₁.next) : NxE s x := fun e s' hx => Nat.le_trans h' (h _ _ hx)
theorem NxS.cond {s : St} {c : Bool} {x y : Res} (h : NxS s x) (h' : NxS s y) : NxS s (bif c then x else y) := by cases c <;> assumption
theorem NxE.cond {s : St} {c : Bool} {x y : Option (End × St)} (h : NxE s x) (h' : NxE s y) : NxE s (bif c then x else y) := by cases c <;> assumption

variable {r : R}
theorem andThen_nx {s : St} {x : Res} {k : Act → St → Res} (h : NxS s x) (hk : ∀ a s', NxS s' (k a s')) : NxS s (andThen x k) := by
  unfold andThen
  split
  · rename_i a s'
    exact (hk a s').le (h _ _ _ rfl)
  · exact h

theorem dropRc_nx {s : St} {x : Option (End × Option (List PE) × St)} (h : NxC s x) : NxE s (dropRc x) := by
  unfold dropRc; split
  · exact NxE.some (h _ _ _ rfl)
  · exact NxE.none
theorem endO_nx {s : St} (a : Act) (d : Option Tmp) {x : Option (End × St)} (h : NxE s x) : NxS s (endO a d x) := by
  unfold endO; split
  · exact NxS.some (h _ _ rfl)
  · exact NxS.some (h _ _ rfl)
  · exact NxS.none

theorem doOut_nx (hr : NxR r) (ro : Option Nat) (a : Act) (d : Option Tmp) (s : St) (o : Out) (ho : ∀ v s', o = .val v s' → s.next ≤ s'.next) : NxS s (doOut r ro a d s o) := by
  unfold doOut
  split
  · exact NxS.some (ho _ _ rfl)
  · exact NxS.cond NxS.none (NxS.some (Nat.le_refl _))
  · exact NxS.cond NxS.none (NxS.some (Nat.le_refl _))
  · exact endO_nx _ _ (dropRc_nx fun _ _ _ h => hr.call h)
  · exact endO_nx _ _ fun _ _ h => hr.round h
  · exact NxS.some (Nat.le_refl _)

theorem opF_nx (hr : NxR r) (ro : Option Nat) (all : List Oper) (o : Oper) (a : Act) (s : St) : NxS s (opF P r ro all o a s) := by
  unfold opF
  refine NxS.cond (NxS.bind fun out ho => doOut_nx hr _ _ _ _ _ fun v s' e => ?_) (NxS.some (Nat.le_refl _))
  subst e; exact execA_nx _ _ _ _ _ ho
theorem opsF_nx (hr : NxR r) (ro : Option Nat) (all : List Oper) : ∀ (l : List Oper) (a : Act) (s : St), NxS s (opsF P r ro all l a s)
  | [], a, s => NxS.some (Nat.le_refl _)
  | o :: l, a, s => andThen_nx (opF_nx hr _ _ _ _ _) fun a s => opsF_nx hr ro all l a s

theorem drawF_nx (hr : NxR r) (ro : Option Nat) (all : List Oper) : ∀ (l : List Oper) (i : Nat) (sn : List Snap) (ld : List Ld) (a : Act) (s : St) (q : Act × St × List Snap × List Ld),
    drawF P r ro all l i sn ld a s = some q → s.next ≤ q.2.1.next
  | [], i, sn, ld, a, s, q, h => by cases h; exact Nat.le_refl _
  | o :: l, i, sn, ld, a, s, q, h => by
    unfold drawF at h
    cases hw : wantedA all a o.guard with
    | true =>
      rw [hw, cond_true] at h
      obtain ⟨out, ho, h⟩ := Option.bind_some'.1 h
      obtain ⟨⟨e, a', s'⟩, hx, h⟩ := Option.bind_some'.1 h
      have := doOut_nx hr ro a o.dst s out (fun v s' e => by subst e; exact execA_nx _ _ _ _ _ ho) _ _ _ hx
      cases e <;> simp only at h <;> try (cases h; done)
      exact Nat.le_trans this (drawF_nx hr ro all l _ _ _ _ _ _ h)
    | false =>
      rw [hw, cond_false] at h
      exact drawF_nx hr ro all l _ _ _ _ _ _ h

theorem loopF_nx {body : Act → St → Res} (hb : ∀ a s, NxS s (body a s)) : ∀ (n : Nat) (a : Act) (s : St), NxS s (loopF body n a s)
  | 0, _, _ => NxS.none
  | n + 1, a, s => andThen_nx (hb a s) fun a s => loopF_nx hb n a s
theorem drawn_nx {s : St} {all : List Oper} {n : Nat} {bf : List Nat} {x : Option (Act × St × List Snap × List Ld)} (h : ∀ q, x = some q → s.next ≤ q.2.1.next) : NxS s (drawn P all n bf x) := by
  intro e a' s' hx
  unfold drawn at hx
  obtain ⟨q, hq, hx⟩ := Option.bind_some'.1 hx
  rw [cond_some] at hx
  obtain ⟨_, hx⟩ := hx
  cases hx
  exact h q hq
theorem onlyPan_some {q x : Ex × Act × St} (h : onlyPan q = some x) : ∃ ch a s, q = (.pan ch, a, s) ∧ x = q := by
  unfold onlyPan at h
  split at h
  · cases h; exact ⟨_, _, _, rfl, rfl⟩
  · cases h
theorem drawnF_nx (hr : NxR r) (ro : Option Nat) (all : List Oper) (a : Act) (s : St) : NxS s (drawnF P r ro all a s) := by
  unfold drawnF
  split
  · rename_i q hq
    intro e a' s' hx
    cases hx
    exact drawn_nx (fun q' e => drawF_nx hr _ _ _ _ _ _ _ _ _ e) _ _ _ hq
  · refine NxS.bind fun i _ => ?_
    unfold panGo
    refine NxS.bind fun q hq => ?_
    obtain ⟨e, a1, s1⟩ := q
    have h1 := drawn_nx (fun q e => drawF_nx hr ro _ _ _ _ _ _ _ q e) _ _ _ hq
    refine NxS.le (s₁ := s1) ?_ h1
    unfold panTail
    refine NxS.cond (NxS.bind fun o _ => NxS.bind fun q2 hq2 => ?_) NxS.none
    obtain ⟨e2, a2, s2⟩ := q2
    have h2 := opF_nx hr _ _ _ _ _ _ _ _ hq2
    intro e3 a3 s3 hx
    obtain ⟨ch, _, _, e1, e2⟩ := onlyPan_some hx
    cases e1; cases e2; exact h2

theorem codeF_nx (hr : NxR r) (ro : Option Nat) : ∀ (c : Code) (a : Act) (s : St), NxS s (codeF P r ro c a s) := by
  intro c
  induction c with
  | skip => intro a s; exact NxS.some (Nat.le_refl _)
  | label _ => intro a s; exact NxS.some (Nat.le_refl _)
  | ret => intro a s; exact NxS.some (Nat.le_refl _)
  | exit _ => intro a s; exact NxS.some (Nat.le_refl _)
  | seq x y ihx ihy => intro a s; exact andThen_nx (ihx a s) fun a s => ihy a s
  | cond c x y ihx ihy => intro a s; exact NxS.bind fun _ _ => NxS.cond (ihx a s) (ihy a s)
  | block id x ih =>
    intro a s e a' s' h
    change blockX id (codeF P r ro x a s) = _ at h
    unfold blockX at h
    split at h
    · rename_i hx
      have := ih a s _ _ _ hx
      generalize (Nat.beq _ _) = c at h
      cases c <;> cases h <;> exact this
    · exact ih a s _ _ _ h
  | loop x ih => intro a s; exact loopF_nx (fun a s => ih a s) LN a s
  | scope x ih => intro a s; exact ih a s
  | region id ops d => intro a s; exact NxS.cond (drawnF_nx hr _ _ _ _) (opsF_nx hr _ _ _ _ _)
  | rangeFunc f params asg body _ _ =>
    intro a s
    show NxS s (rangeFuncF r ro f params asg body a s)
    unfold rangeFuncF
    refine NxS.cond NxS.none (NxS.bind fun d hd => NxS.bind fun l hl => ?_)
    have h1 := new_next hd
    have h2 := new_next hl
    refine NxS.le ?_ (Nat.le_trans h1 h2)
    unfold goLoop
    refine NxS.bind fun _ _ => NxS.bind fun _ _ => ?_
    split
    · unfold afterLoop
      split
      · rename_i hx
        have hc := dropRc_nx (s := l.2) (fun _ _ _ h => hr.call h) _ _ hx
        refine NxS.bind fun b hb => NxS.le ?_ hc
        unfold killLoop
        split
        · exact NxS.none
        · exact NxS.some (Nat.le_refl _)
        · unfold pendF
          split
          · exact NxS.some (Nat.le_refl _)
          · exact NxS.some (Nat.le_refl _)
          · exact NxS.none
        · exact NxS.none
      · rename_i hx
        exact NxS.some (dropRc_nx (s := l.2) (fun _ _ _ h => hr.call h) _ _ hx)
      · exact NxS.none
    · exact NxS.none
  | goto _ => intro a s; exact NxS.none
  | refuse _ => intro a s; exact NxS.none

theorem endRound_nx (l : Nat) (e : Ex) (s : St) (b : Blk) : NxE s (endRound l e s b) := by
  unfold endRound
  split
  · split <;> exact NxE.some (Nat.le_refl _)
  · exact NxE.none
theorem roundF_nx (hr : NxR r) (l : Nat) (args : List V) (s : St) : NxE s (roundF P r l args s) := by
  unfold roundF
  refine NxE.bind fun b _ => ?_
  unfold startRound
  split
  · refine NxE.bind fun a _ => NxE.bind fun q hq => NxE.bind fun q' hq' => ?_
    obtain ⟨e, a1, s1⟩ := q
    have h1 := codeF_nx hr _ _ _ _ _ _ _ hq
    cases e <;> simp only [isNorm] at hq' <;> try (cases hq'; done)
    cases hq'
    refine NxE.le (s₁ := s1) (NxE.bind fun b' _ => ?_) h1
    unfold goRound
    split
    · refine NxE.bind fun q2 hq2 => ?_
      obtain ⟨e2, a2, s2⟩ := q2
      have h2 : (St.set s1 _ _).next ≤ s2.next := codeF_nx hr _ _ _ _ _ _ _ hq2
      refine NxE.le (s₁ := s2) ?_ h2
      unfold closeRound
      split
      · exact NxE.bind fun _ _ => endRound_nx _ _ _ _
      · exact NxE.none
    · exact NxE.none
  · exact NxE.none

theorem leaveF_nx (hr : NxR r) (f : FuncId) (tm : T V TD) (ds : List Dfr) (u : Option (List PE)) (s : St) : NxE s (leaveF P r f tm ds u s) := by
  unfold leaveF
  split
  · split
    · exact NxE.some (Nat.le_refl _)
    · refine NxE.bind fun _ _ => fun e s' h => ?_
      obtain ⟨_, _, h⟩ := Option.map_some'.1 h
      cases h; exact Nat.le_refl _
  · unfold leaveOne
    split
    · refine NxE.bind fun b _ => ?_
      split
      · exact fun _ _ h => (hr.leave h : (St.set _ _ _).next ≤ _)
      · exact NxE.none
    · split
      · refine NxE.bind fun q hq => ?_
        obtain ⟨e, rc, s1⟩ := q
        have h1 := hr.call hq
        refine NxE.le (s₁ := s1) ?_ h1
        cases e <;> exact fun _ _ h => hr.leave h
      · exact NxE.none

def HookNx (hook : Hook) : Prop := ∀ f args s v s', hook f args s = some (some (v, s')) → s.next ≤ s'.next

theorem callF_nx {hook : Hook} (hh : HookNx hook) (hr : NxR r) (f : FuncId) (args : List V) (rc : Option (List PE)) (s : St) : NxC s (callF P hook r f args rc s) := by
  intro e rc' s' h
  unfold callF at h
  split at h
  · rename_i res hres
    rw [cond_none_some] at h
    obtain ⟨_, h⟩ := h
    obtain ⟨⟨v, s1⟩, hv, h⟩ := Option.map_some'.1 h
    cases h
    exact hh _ _ _ _ _ (hres.trans (by rw [hv]))
  · unfold enterF at h
    simp only [Option.bind_some', cond_some] at h
    obtain ⟨fn, _, c, _, _, ⟨ex, a1, s1⟩, hq, h⟩ := h
    have h1 := codeF_nx hr _ _ _ _ _ _ _ hq
    have key : ∀ rc u, withRc rc (r.leave f a1.tmps a1.defers u s1) = some (e, rc', s') → s1.next ≤ s'.next := by
      intro rc u hx
      unfold withRc at hx
      obtain ⟨⟨e2, s2⟩, hy, he⟩ := Option.map_some'.1 hx
      simp only [Prod.mk.injEq] at he
      obtain ⟨_, _, rfl⟩ := he
      exact hr.leave hy
    unfold leaving at h
    cases ex <;> simp only at h
    · exact Nat.le_trans h1 (key _ _ h)
    · cases h
    · exact Nat.le_trans h1 (key _ _ h)
    · exact Nat.le_trans h1 (key _ _ h)

theorem ev_nx {hook : Hook} (hh : HookNx hook) : ∀ n, NxR (ev P hook n)
  | 0 => ⟨fun h => (by cases h), fun h => (by cases h), fun h => (by cases h)⟩
  | n + 1 => ⟨fun h => callF_nx hh (ev_nx hh n) _ _ _ _ _ _ _ h, fun h => roundF_nx (ev_nx hh n) _ _ _ _ _ h, fun h => leaveF_nx (ev_nx hh n) _ _ _ _ _ _ _ h⟩
end
end Go.Ev
