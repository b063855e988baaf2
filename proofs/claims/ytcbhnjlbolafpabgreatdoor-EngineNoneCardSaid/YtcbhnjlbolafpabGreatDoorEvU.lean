/- Operations of a region, one behind the other. -/
import Derived.Test.YtcbhnjlbolafpabGreatDoorEvT
set_option linter.unusedSimpArgs false
set_option linter.unusedVariables false
namespace Go.Ev
section
variable {P : Program}

theorem yielded_sound {φ : Phi} {a : Act} {ca : Go.Act} (ra : Ra φ a ca) {ops : Array Oper} {j : Nat} {b : Bool} (h : yieldedA ops.toList a j = some b) : yielded ops ca.tmps j = some b := by
  unfold yieldedA at h
  simp only [Option.bind_some'] at h
  obtain ⟨o, ho, d, hd, hb⟩ := h
  have ho' : ops[j]? = some o := by
    rw [List.head?_drop] at ho; simpa using ho
  have hv := asBoolV_some hb
  have hs := ra.t.slot d
  unfold Act.get at hv
  rw [hv] at hs
  unfold yielded
  simp only [ho', Option.bind_some, hd]
  rw [Array.getD_eq_getD_getElem?] at hs
  cases hc : ca.tmps[d]? with
  | none => rw [hc] at hs; simp only [Option.getD_none, Go.undef] at hs; cases hs
  | some u => rw [hc] at hs; simp only [Option.getD_some] at hs; cases hs; rfl

theorem yieldedA_none {φ : Phi} {a : Act} {ca : Go.Act} (ra : Ra φ a ca) {ops : Array Oper} {j : Nat} (h : yieldedA ops.toList a j = none) : yielded ops ca.tmps j = none := by
  cases hy : yielded ops ca.tmps j with
  | none => rfl
  | some b =>
    exfalso
    unfold yielded at hy
    split at hy
    · rename_i b' hb
      obtain ⟨d, hd, hb⟩ := Option.bind_some'.1 hb
      obtain ⟨o, ho, hd⟩ := Option.bind_some'.1 hd
      have hs := ra.t.slot d
      rw [Array.getD_eq_getD_getElem?, hb, Option.getD_some] at hs
      unfold yieldedA at h
      rw [List.head?_drop, Array.getElem?_toList, ho] at h
      simp only [Option.bind_some, hd] at h
      unfold Act.get at h
      generalize (T.get TD a.tmps d).getD undef = v at hs h
      cases hs
      cases h
    · cases hy

theorem wanted_sound {φ : Phi} {a : Act} {ca : Go.Act} (ra : Ra φ a ca) {ops : Array Oper} {o : Oper} : Region.wanted o (yielded ops ca.tmps) = wantedA ops.toList a o.guard := by
  unfold Region.wanted wantedA
  cases o.guard with
  | none => rfl
  | some p =>
    obtain ⟨j, w⟩ := p
    simp only
    split
    · rename_i b hb
      rw [yielded_sound ra hb]
      cases b <;> cases w <;> rfl
    · rename_i hb
      rw [yieldedA_none ra hb]; rfl

theorem put_keeps {φ : Phi} {s : St} {w : World} {ro : Option Nat} {a : Act} {b : Frame} {ca : Go.Act} {X : Cx} {u : List PanicEntry} (h : Pre φ s w ro a b ca X u) {φ' : Phi} {s' : St} {w' : World} (hh : Rh φ' s' w') (he : Ext φ s w φ' s' w')
    {v : V} {cu : Value} (hv : Rv φ' v cu) (d : Option Tmp) : Pre φ' s' w' ro (a.put d v) b (ca.put d cu) X u :=
  ⟨hh, (h.ha.mono he.le).put hv d, by rw [Act.put_rc]; exact h.hrc.mono he.le, h.hk, h.hro.mono he.le⟩

section op
variable {ops : Array Oper} {i : Nat} {rest : List Nat} {o : Oper}

/-- the operation has been made: its value lies where it shall -/
theorem fin_eq (ho : ops[i]? = some o) (b : Frame) (ca : Go.Act) (k : List Item) (u : Value) :
    (b.atR ca (.inRegion ops (i :: rest) :: k)).finish u = b.atR (ca.put o.dst u) (.inRegion ops rest :: k) := by
  rw [Frame.finish_atR, ho]; rfl

theorem land_sound {φ : Phi} {s s' : St} {w w' : World} {ro : Option Nat} {a : Act} {b : Frame} {ca : Go.Act} {k : List Item} {X : Cx} {u : List PanicEntry} (hp : Pre φ s w ro a b ca X u) (ho : ops[i]? = some o) {m : Machine}
    {e : End} {e' : Ending} {x : Ex × Act × St} (hx : endO a o.dst (some (e, s')) = some x) (hpost : Post φ s w s' e e' w') (hl : Land P (b.atR ca (.inRegion ops (i :: rest) :: k)) (X.list u) m e' w') :
    Cc P φ s w ro b (.inRegion ops rest :: k) X m x := by
  obtain ⟨φ', h1, h2, h3⟩ := hpost
  cases e with
  | ret v =>
    cases e' with
    | returned cu =>
      cases hx
      refine ⟨φ', w', _, u, put_keeps hp h1 h2 h3 o.dst, h2, ?_⟩
      have : Steps P m (lone ((b.atR ca (.inRegion ops (i :: rest) :: k)).finish cu) (X.list u) w') := hl
      rw [fin_eq ho] at this
      exact this
    | panicked _ => exact h3.elim
    | outgrown => exact h3.elim
  | pan ch =>
    cases e' with
    | returned _ => exact h3.elim
    | outgrown => exact h3.elim
    | panicked chain =>
      cases hx
      refine ⟨φ', w', ca, u, ⟨h1, hp.ha.mono h2.le, hp.hrc.mono h2.le, hp.hk, hp.hro.mono h2.le⟩, h2, .inRegion ops (i :: rest) :: k, chain, h3.1, h3.2, trivial, ?_⟩
      have : Steps P m (lone ((b.atR ca (.inRegion ops (i :: rest) :: k)).raise chain) (X.list u) w') := hl
      rwa [Frame.raise_atR] at this

/-- a call's answer brings the caller on -/
theorem done_land {res : Result Next} {R : Ending → World → Prop} (h : Done P res R) {fr : Frame} {cs : List Frame} {m : Machine} (hne : ∀ w', ¬ R .outgrown w')
    (hv : ∀ u w', res = .ok (.value u) w' → Steps P m (lone (fr.finish u) cs w')) (he : ∀ g us w1, res = .ok (.enter g us) w1 → Steps P m (lone (Frame.enter P g us .normal) (fr :: cs) w1)) :
    ∃ e' w', R e' w' ∧ Land P fr cs m e' w' := by
  rcases h with ⟨u, w', h1, h2⟩ | ⟨g, us, w1, h1, h2⟩
  · exact ⟨_, _, h2, hv _ _ h1⟩
  · obtain ⟨e', w', fr', hR, hc, hfn, hl⟩ := h2 (fr :: cs)
    refine ⟨e', w', hR, ?_⟩
    cases e' with
    | returned v => exact ((he _ _ _ h1).trans hc).trans (.one (step_leave_returned hl))
    | panicked chain => exact ((he _ _ _ h1).trans hc).trans (.one (step_leave_panicked hl))
    | outgrown => exact absurd hR (hne _)

theorem post_ne {φ : Phi} {s s' : St} {w : World} {e : End} (w' : World) : ¬ Post φ s w s' e .outgrown w' := by
  rintro ⟨φ', _, _, h⟩
  cases e <;> exact h

theorem sem_eq {a : Act} {s : St} {o : Oper} {out : Out} (h : execA P a s o.op = some out) (bro : Option Nat) (ρ : Operand → Value) : o.semAt bro ρ = execOp ρ o ∨ (bro.isSome = true ∧ ∃ d, out = .dfr d) := by
  cases bro with
  | none => exact .inl rfl
  | some l =>
    cases ho : o.op with
    | defer c =>
      right
      rw [ho] at h
      simp only [execA] at h
      obtain ⟨args, _, h⟩ := Option.bind_some'.1 h
      unfold deferV at h
      split at h
      · simp only [Option.bind_some'] at h
        obtain ⟨_, _, _, _, h⟩ := h
        cases h
        exact ⟨rfl, _, rfl⟩
      · cases h
    | _ => left; exact Oper.semAt_eq _ _ _ (by rw [ho]; intro c h; cases h)

theorem ro_isSome {φ : Phi} {ro bro : Option Nat} (h : Ro φ ro bro) : ro.isSome = bro.isSome := by
  cases ro <;> cases bro <;> first | rfl | exact h.elim

theorem op_sound {r : R} (hr : Sound P r) (hnx : NxR r) {φ : Phi} {s : St} {w : World} {ro : Option Nat} {a : Act} {b : Frame} {ca : Go.Act} {k : List Item} {X : Cx} {u : List PanicEntry} (hp : Pre φ s w ro a b ca X u)
    (ho : ops[i]? = some o) {x : Ex × Act × St} (hx : opF P r ro ops.toList o a s = some x) (hf : Fresh φ s.next x.2.2.next) :
    Cc P φ s w ro b (.inRegion ops rest :: k) X (lone (b.atR ca (.inRegion ops (i :: rest) :: k)) (X.list u) w) x := by
  unfold opF at hx
  have hw := wanted_sound hp.ha (ops := ops) (o := o)
  cases hwa : wantedA ops.toList a o.guard with
  | false =>
    rw [hwa, cond_false] at hx
    rw [hwa] at hw
    cases hx
    refine ⟨φ, w, ca.put o.dst Go.undef, u, ⟨hp.hh, hp.ha.put Rv.undef _, by rw [Act.put_rc]; exact hp.hrc, hp.hk, hp.hro⟩, Ext.refl _ _ _, ?_⟩
    have := stepR_op_skip (P := P) (b := b) (a := ca) (k := k) (cs := X.list u) (w := w) (ops := ops) (i := i) (rest := rest) (by simp [ho, hw])
    rw [ho] at this
    exact .one this
  | true =>
    rw [hwa, cond_true] at hx
    rw [hwa] at hw
    obtain ⟨out, hout, hx⟩ := Option.bind_some'.1 hx
    have hg := stepGR_op (P := P) (b := b) (a := ca) (k := k) (cs := X.list u) (w := w) (rest := rest) ho hw
    have hfr : ∀ v s', out = .val v s' → Fresh φ s.next s'.next := by
      rintro v s' rfl
      cases hx; exact hf
    have hO := execA_sound (P := P) hp.hh hp.ha (o := o) hfr hout
    have hsem : ro.isSome = true → (∃ d, out = .dfr d) → False := by
      rintro h ⟨d, rfl⟩
      simp only [doOut, h, cond_true] at hx
      cases hx
    have hg' : stepG P true { frame := b.atR ca (.inRegion ops (i :: rest) :: k), callers := X.list u, status := .running, dying := none } w =
        stepG.apply P true (b.atR ca (.inRegion ops (i :: rest) :: k)) (X.list u) none (execOp ca.eval o) w := by
      rcases sem_eq hout b.roundOf ca.eval with h | ⟨h1, h2⟩
      · rw [hg, h]
      · exact (hsem (by rw [ro_isSome hp.hro]; exact h1) h2).elim
    cases out with
    | val v s' =>
      cases hx
      obtain ⟨φ', w', nx, cu, r1, r2, r3, r4, r5⟩ := hO
      refine ⟨φ', w', _, u, put_keeps hp r4 r5 r3 o.dst, r5, ?_⟩
      refine .one ?_
      rw [← fin_eq (i := i) (rest := rest) ho]
      refine step_lone_go ?_
      rw [hg']
      rcases r2 with rfl | ⟨rfl, rfl⟩ <;> simp [stepG.apply, r1]
    | dfr d =>
      obtain ⟨e, r1, r2⟩ := hO
      cases hro : ro.isSome with
      | true => exact (hsem hro ⟨d, rfl⟩).elim
      | false =>
        simp only [doOut, hro, cond_false] at hx
        cases hx
        have hd : Ra φ (deferA a d) { ca with defers := e :: ca.defers } := ⟨hp.ha.t, .cons _ _ _ _ r2 hp.ha.d⟩
        refine ⟨φ, w, _, u, ⟨hp.hh, hd.put Rv.undef o.dst, by rw [Act.put_rc]; exact hp.hrc, hp.hk, hp.hro⟩, Ext.refl _ _ _, .one (step_lone_go ?_)⟩
        rw [hg']
        have : ({ b.atR ca (.inRegion ops (i :: rest) :: k) with defers := e :: ca.defers } : Frame).finish Go.undef = b.atR ({ ca with defers := e :: ca.defers }.put o.dst Go.undef) (.inRegion ops rest :: k) := by
          have := fin_eq (i := i) (rest := rest) ho b { ca with defers := e :: ca.defers } k Go.undef
          exact this
        simp only [stepG.apply, Sem.runT_eq, r1, GStep.bare_after]
        exact congrArg (fun fr => GStep.go { frame := fr, callers := X.list u, status := .running, dying := none } w) this
    | rcv =>
      have r1 : (execOp ca.eval o).run P w = .ok .recover w := hO
      cases hro : ro.isSome with
      | true => simp only [doOut, hro, cond_true] at hx; cases hx
      | false =>
        simp only [doOut, hro, cond_false] at hx
        cases hx
        have hbro : b.roundOf = none := by
          have := ro_isSome hp.hro
          rw [hro] at this
          cases hb : b.roundOf with
          | none => rfl
          | some l => rw [hb] at this; cases this
        have hrc := hp.hrc
        have hkind := hp.hk
        cases X with
        | norm cs =>
          cases harc : a.rc with
          | some l => rw [harc] at hrc; exact hrc.elim
          | none =>
            refine ⟨φ, w, ca.put o.dst .nilIface, u, ⟨hp.hh, hp.ha.put Rv.nili o.dst, by show RRc φ (a.put o.dst V.nili).rc _ _; rw [Act.put_rc, harc]; exact trivial, hp.hk, hp.hro⟩, Ext.refl _ _ _, .one (step_lone_go ?_)⟩
            rw [hg', ← fin_eq (i := i) (rest := rest) ho]
            have hk' : b.kind = .normal := hkind
            have htr : tryRecover (b.atR ca (.inRegion ops (i :: rest) :: k)) cs = none := by simp [tryRecover, Frame.atR, hk']
            have hb' : (b.atR ca (.inRegion ops (i :: rest) :: k)).roundOf = none := hbro
            simp [stepG.apply, r1, Cx.list, hb', htr]
        | dfr c cs =>
          have hb' : (b.atR ca (.inRegion ops (i :: rest) :: k)).roundOf = none := hbro
          have hk' : (b.atR ca (.inRegion ops (i :: rest) :: k)).kind = .deferred := hkind
          cases harc : a.rc with
          | none => rw [harc] at hrc; exact hrc.elim
          | some l =>
            rw [harc] at hrc
            have hrc : RPs φ l u := hrc
            have htr := tryRecover_deferred hk' ({ c with mode := um u } :: cs)
            cases hrc with
            | nil =>
              refine ⟨φ, w, ca.put o.dst .nilIface, [], ⟨hp.hh, hp.ha.put Rv.nili o.dst, by show RRc φ (a.put o.dst V.nili).rc _ _; rw [Act.put_rc, harc]; exact RPs.nil, hp.hk, hp.hro⟩, Ext.refl _ _ _, .one (step_lone_go ?_)⟩
              rw [hg', ← fin_eq (i := i) (rest := rest) ho]
              have : recoverD ({ c with mode := um [] } :: cs) = none := rfl
              rw [this] at htr
              simp [stepG.apply, r1, Cx.list, hb', htr]
            | cons v rcv cu l' m' hv hl =>
              cases rcv with
              | true =>
                refine ⟨φ, w, ca.put o.dst .nilIface, _, ⟨hp.hh, hp.ha.put Rv.nili o.dst, by show RRc φ (a.put o.dst V.nili).rc _ _; rw [Act.put_rc, harc]; exact RPs.cons _ _ _ _ _ hv hl, hp.hk, hp.hro⟩, Ext.refl _ _ _, .one (step_lone_go ?_)⟩
                rw [hg', ← fin_eq (i := i) (rest := rest) ho]
                have : recoverD ({ c with mode := um ({ v := cu, recovered := true } :: m') } :: cs) = none := rfl
                rw [this] at htr
                simp [stepG.apply, r1, Cx.list, hb', htr]
              | false =>
                have hA : Ra φ ⟨a.tmps, a.size, a.defers, some (⟨v, true⟩ :: l')⟩ ca := ⟨hp.ha.t, hp.ha.d⟩
                refine ⟨φ, w, ca.put o.dst cu, { v := cu, recovered := true } :: m', ⟨hp.hh, hA.put hv o.dst, ?_, hp.hk, hp.hro⟩, Ext.refl _ _ _, .one (step_lone_go ?_)⟩
                · show RRc φ (recoverA a o.dst (some (⟨v, false⟩ :: l'))).rc _ _
                  simp only [recoverA, Act.put_rc]
                  exact RPs.cons _ _ _ _ _ hv hl
                · rw [hg', ← fin_eq (i := i) (rest := rest) ho]
                  have : recoverD ({ c with mode := um ({ v := cu, recovered := false } :: m') } :: cs) = some (cu, { c with mode := um ({ v := cu, recovered := true } :: m') } :: cs) := rfl
                  rw [this] at htr
                  simp [stepG.apply, r1, Cx.list, hb', htr]
    | call f args =>
      obtain ⟨us, r1, r2⟩ := hO
      simp only [doOut] at hx
      cases hc : r.call f args none s with
      | none => rw [hc] at hx; simp only [dropRc, endO] at hx; cases hx
      | some q =>
        obtain ⟨e, rc', s'⟩ := q
        rw [hc] at hx
        simp only [dropRc] at hx
        have hs' : x.2.2 = s' := by cases e <;> cases hx <;> rfl
        have hD := hr.call hc hp.hh r2 (hs' ▸ hf)
        rw [← r1] at hD
        obtain ⟨e', w', h1, h2⟩ := done_land (P := P) hD (fr := b.atR ca (.inRegion ops (i :: rest) :: k)) (cs := X.list u) (m := lone (b.atR ca (.inRegion ops (i :: rest) :: k)) (X.list u) w)
          (fun w' => post_ne w') (fun cu w' e => .one (step_lone_go (by rw [hg']; simp [stepG.apply, e])))
          (fun g us w1 e => .one (step_lone_go (by rw [hg']; simp [stepG.apply, e, Frame.atR])))
        exact land_sound hp ho hx h1 h2
    | yield l args =>
      obtain ⟨L, us, hL, r1, r2⟩ := hO
      simp only [doOut] at hx
      cases hc : r.round l args s with
      | none => rw [hc] at hx; simp only [endO] at hx; cases hx
      | some q =>
        obtain ⟨e, s'⟩ := q
        rw [hc] at hx
        have hs' : x.2.2 = s' := by cases e <;> cases hx <;> rfl
        obtain ⟨lf, tm, asg, body, g1, g2⟩ := hr.round hc hL hp.hh r2 (hs' ▸ hf)
        rw [← r1] at g1
        obtain ⟨e', w', h1, h2⟩ := g2 (b.atR ca (.inRegion ops (i :: rest) :: k)) (X.list u)
        have henter : Go.step P (lone (b.atR ca (.inRegion ops (i :: rest) :: k)) (X.list u) w) = .next (lone (Frame.round L.blk lf tm asg body .normal) (b.atR ca (.inRegion ops (i :: rest) :: k) :: X.list u) w) :=
          step_lone_go (by rw [hg']; simp [stepG.apply, g1, Frame.atR])
        refine Cc.of_steps (.one henter) (land_sound hp ho hx h1 h2)
    | pan v =>
      obtain ⟨cu, r1, r2⟩ := hO
      cases hx
      refine ⟨φ, w, ca, u, hp, Ext.refl _ _ _, .inRegion ops (i :: rest) :: k, [{ v := cu, recovered := false }], by simp, .cons _ _ _ _ _ r2 .nil, trivial, .one (step_lone_go ?_)⟩
      rw [hg', ← Frame.raise_atR]
      simp [stepG.apply, r1]
end op

theorem ops_sound {r : R} (hr : Sound P r) (hnx : NxR r) {ops : Array Oper} {ro : Option Nat} {b : Frame} {k : List Item} {X : Cx} : ∀ (l : List Oper) (j : Nat), ops.toList.drop j = l → ∀ {φ s w a ca u x}, Pre φ s w ro a b ca X u →
    opsF P r ro ops.toList l a s = some x → Fresh φ s.next x.2.2.next → Cc P φ s w ro b k X (lone (b.atR ca (.inRegion ops (List.range' j (ops.size - j)) :: k)) (X.list u) w) x
  | [], j, hl, φ, s, w, a, ca, u, x, hp, hx, hf => by
    have hj : ops.size ≤ j := by simpa using List.drop_eq_nil_iff.1 hl
    cases hx
    refine ⟨φ, w, ca, u, hp, Ext.refl _ _ _, ?_⟩
    rw [show ops.size - j = 0 by omega]
    exact .one stepR_region_end
  | o :: l, j, hl, φ, s, w, a, ca, u, x, hp, hx, hf => by
    have hj : j < ops.size := by
      rcases Nat.lt_or_ge j ops.size with h | h
      · exact h
      · rw [List.drop_eq_nil_iff.2 (by simpa using h)] at hl; cases hl
    have ho : ops[j]? = some o := by
      have : (ops.toList.drop j)[0]? = some o := by rw [hl]; rfl
      simpa using this
    have hl' : ops.toList.drop (j + 1) = l := by
      have : (ops.toList.drop j).drop 1 = l := by rw [hl]; rfl
      simpa [List.drop_drop] using this
    rw [show ops.size - j = (ops.size - (j + 1)) + 1 by omega, List.range'_succ]
    refine seq_sound (i := .inRegion ops (List.range' (j + 1) (ops.size - (j + 1)))) (fun _ _ => rfl) hx (fun e a' s' h => opF_nx hnx _ _ _ _ _ _ _ _ h) (fun a' s' h => opsF_nx hnx _ _ _ _ _ _ _ _ h) hf
      (fun y hy hfy => op_sound hr hnx hp ho hy hfy) (fun a' s' φ' w' ca' u' h1 h2 h3 => ops_sound hr hnx l (j + 1) hl' h2 h1 h3)

theorem region_sound {r : R} (hr : Sound P r) (hnx : NxR r) {ops : Array Oper} {ro : Option Nat} {b : Frame} {k : List Item} {X : Cx} {id : Nat} {φ : Phi} {s : St} {w : World} {a : Act} {ca : Go.Act} {u : List PanicEntry} {x : Ex × Act × St} (hp : Pre φ s w ro a b ca X u)
    (hx : opsF P r ro ops.toList ops.toList a s = some x) (hf : Fresh φ s.next x.2.2.next) : Cc P φ s w ro b k X (lone (b.atR ca (.code (.region id ops false) :: k)) (X.list u) w) x := by
  refine Cc.of_steps (.one stepR_region) ?_
  have := ops_sound hr hnx (k := k) ops.toList 0 rfl hp hx hf
  rwa [Nat.sub_zero, ← List.range_eq_range'] at this
end
end Go.Ev
