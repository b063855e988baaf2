/- One operation: what the evaluator answers is what the machine does. -/
import Derived.Test.YtcbhnjlbolafpabGreatDoorEvP
set_option linter.unusedSimpArgs false
set_option linter.unusedVariables false
namespace Go.Ev
section
variable {P : Program}

theorem andThen_assoc' {α β γ : Type} (r : Result α) (f : α → World → Result β) (g : β → World → Result γ) : (r.andThen f).andThen g = r.andThen fun a w => (f a w).andThen g := by cases r <;> rfl

def OpS (P : Program) (φ : Phi) (s : St) (w : World) (sem : Sem Next) : Out → Prop
  | .val v s' => ∃ φ' w' nx u, sem.run P w = .ok nx w' ∧ (nx = .value u ∨ (nx = .skip ∧ u = Go.undef)) ∧ Rv φ' v u ∧ Rh φ' s' w' ∧ Ext φ s w φ' s' w'
  | .dfr d => ∃ e, sem.run P w = .ok (.defer e) w ∧ RD φ d e
  | .rcv => sem.run P w = .ok .recover w
  | .call f args => ∃ us, sem.run P w = (callFunc f ⟨us⟩).run P w ∧ RvL φ args us
  | .yield l args => ∃ L us, φ l = some L ∧ sem.run P w = (Instr.yield L.blk ⟨us⟩).run P w ∧ RvL φ args us
  | .pan v => ∃ u, sem.run P w = .halt (.panic u) w ∧ Rv φ v u

theorem OpS.pure {φ : Phi} {s : St} {w : World} (hh : Rh φ s w) {sem : Sem Next} {sv : Sem Value} {r : Option V} {out : Out} (ho : pureO s r = some out) (hs : sem.run P w = (sv.run P w).andThen fun u w' => .ok (.value u) w')
    (h : ∀ v, r = some v → ∃ u, sv.run P w = .ok u w ∧ Rv φ v u) : OpS P φ s w sem out := by
  obtain ⟨v, hv, rfl⟩ := Option.map_some'.1 ho
  obtain ⟨u, h1, h2⟩ := h v hv
  exact ⟨φ, w, _, u, by rw [hs, h1]; rfl, .inl rfl, h2, hh, Ext.refl _ _ _⟩
theorem OpS.mem {φ : Phi} {s : St} {w : World} {sem : Sem Next} {sv : Sem Value} {r : Option (V × St)} {out : Out} (ho : memO r = some out) (hs : sem.run P w = (sv.run P w).andThen fun u w' => .ok (.value u) w')
    (h : ∀ v s', r = some (v, s') → out = .val v s' → MS P φ s w sv v s') : OpS P φ s w sem out := by
  obtain ⟨⟨v, s'⟩, hv, rfl⟩ := Option.map_some'.1 ho
  obtain ⟨φ', w', u, h1, h2, h3, h4⟩ := h v s' hv rfl
  exact ⟨φ', w', _, u, by rw [hs, h1]; rfl, .inl rfl, h2, h3, h4⟩
theorem OpS.unit {φ : Phi} {s : St} {w : World} {sem : Sem Next} {sv : Sem Unit} {r : Option St} {out : Out} (ho : unitO r = some out) (hs : sem.run P w = (sv.run P w).andThen fun _ w' => .ok .skip w')
    (h : ∀ s', r = some s' → ∃ w', sv.run P w = .ok () w' ∧ Rh φ s' w' ∧ Ext φ s w φ s' w') : OpS P φ s w sem out := by
  obtain ⟨s', hv, rfl⟩ := Option.map_some'.1 ho
  obtain ⟨w', h1, h2, h3⟩ := h s' hv
  exact ⟨φ, w', _, Go.undef, by rw [hs, h1]; rfl, .inr ⟨rfl, rfl⟩, Rv.undef, h2, h3⟩

/-- a new variable -/
theorem newVar_sound {φ : Phi} {s s' : St} {w : World} (hh : Rh φ s w) {cs : List V} {x : Bool} {esz b : Nat} {t : TypeId} {u : Value} (hc : RvL φ cs u.cells.toList) (hn : s.newRow cs x esz = some (b, s')) (hf : Fresh φ s.next s'.next) :
    MS P φ s w (do pure (.pointer (some (← newVar t u)))) (.ptr b 0) s' := by
  obtain ⟨g1, g2⟩ := newRow_plain (e := t) hh hn hf hc
  refine ⟨_, _, .pointer (some ⟨w.heap.size, 0, none⟩), ?_, ?_, g1, g2⟩
  · have : (⟨u.cells.toList⟩ : Array Value) = u.cells := rfl
    simp only [newVar, newRow, Sem.run_bind, run_newObj, Result.andThen_ok, Sem.run_pure, this]
  · have := Rv.ptr (φ := upd φ b ⟨w.heap.size, 0, 0⟩) b 0 _ (upd_same _ _ _)
    simpa using this

theorem invokeM_sound {φ : Phi} {s : St} {w : World} (hh : Rh φ s w) {name : String} {l : List V} {us : List Value} (hl : RvL φ l us) {out : Out} (h : invokeM P s name l = some out) {sem : Sem Next}
    (hs : ∀ recv rest, us = recv :: rest → sem.run P w = (callMethod recv name ⟨rest⟩).run P w) : OpS P φ s w sem out := by
  unfold invokeM at h
  split at h
  · rename_i t v rest
    obtain ⟨r, hr, rfl⟩ := Option.map_some'.1 h
    cases hl with
    | cons _ u _ m hu hm =>
      cases hu with
      | iface _ _ u' hu' =>
        obtain ⟨ur, h1, h2⟩ := method_run (P := P) hh (show 4 ≤ P.types.size + Made.depth from by
          have : Made.depth ≥ 4 := by decide
          omega) hu' hr
        refine ⟨ur :: m, ?_, .cons _ _ _ _ h2 hm⟩
        rw [hs _ _ rfl]
        have : (#[ur] ++ (⟨m⟩ : Array Value)) = ⟨ur :: m⟩ := by apply Array.ext'; simp
        simp only [callMethod, Sem.run_bind, run_program, Result.andThen_ok, h1, this]
  · cases h

theorem invokeFn_sound {φ : Phi} {s : St} {w : World} (hh : Rh φ s w) {f g : Fn} {cap args : List V} {ccap cargs : List Value} (hf : RFn φ f g) (hc : RvL φ cap ccap) (ha : RvL φ args cargs) {out : Out}
    (h : invokeFn P s f cap args = some out) : OpS P φ s w (invoke (.fn g ⟨ccap⟩) ⟨cargs⟩) out := by
  cases hf with
  | func f =>
    simp only [invokeFn, Option.some.injEq] at h; subst h
    refine ⟨cargs ++ ccap, ?_, ha.append hc⟩
    have : ((⟨cargs⟩ : Array Value) ++ ⟨ccap⟩) = ⟨cargs ++ ccap⟩ := by apply Array.ext'; simp
    simp only [invoke, this]
  | method n =>
    simp only [invokeFn] at h
    refine invokeM_sound hh ha h fun recv rest e => ?_
    subst e
    have h0 : (⟨recv :: rest⟩ : Array Value)[0]? = some recv := rfl
    have h1 : (⟨recv :: rest⟩ : Array Value).extract 1 (⟨recv :: rest⟩ : Array Value).size = ⟨rest⟩ := by apply Array.ext'; simp
    simp only [invoke, h0, h1]
  | yield l L hL =>
    simp only [invokeFn, Option.some.injEq] at h; subst h
    exact ⟨L, cargs, hL, rfl, ha⟩

theorem builtin_sound {φ : Phi} {s : St} {w : World} (hh : Rh φ s w) {b : Builtin} {ts : Array TypeId} {ty : TypeId} {cs : Array Bool} {args : List V} {us : List Value} (ha : RvL φ args us) {out : Out}
    (hf : ∀ v s', out = .val v s' → Fresh φ s.next s'.next) (h : builtinV P s b ts args = some out) : OpS P φ s w (builtin b ts ty cs ⟨us⟩) out := by
  have hN : builtinN s b args = some out → OpS P φ s w (builtin b ts ty cs ⟨us⟩) out := by
    intro h
    cases b <;> simp only [builtinN] at h <;> try (cases h; done)
    case min => exact OpS.pure (sv := Builtin.min_ ts ty ⟨us⟩) hh h (by simp [builtin]) fun v hv => min_sound ts ty ha hv
    case max => exact OpS.pure (sv := Builtin.max_ ts ty ⟨us⟩) hh h (by simp [builtin]) fun v hv => max_sound ts ty ha hv
    case recover => cases h; rfl
  unfold builtinV at h
  split at h
  · rename_i x
    cases ha with
    | cons _ u _ m hu hm =>
      cases hm
      cases b <;> simp only [builtin1] at h <;> try (cases h; done)
      case clear => exact OpS.mem (sv := Builtin.clear_ ts ty #[u]) h (by simp [builtin]) fun v s' hv _ => clear_sound hh hu hv
      case len => exact OpS.pure (sv := Builtin.len_ ts ty #[u]) hh h (by simp [builtin]) fun v hv => len_sound hh hu hv
      case cap => exact OpS.pure (sv := Builtin.cap_ ts ty #[u]) hh h (by simp [builtin]) fun v hv => cap_sound hu hv
  · rename_i x y
    cases ha with
    | cons _ u _ m hu hm =>
      cases hm with
      | cons _ u' _ m' hu' hm' =>
        cases hm'
        cases b <;> simp only [builtin2] at h <;> try (cases h; done)
        case append => exact OpS.mem (sv := Builtin.append_ ts ty #[u, u']) h (by simp [builtin]) fun v s' hv ho => append_sound hh (hf v s' ho) hu hu' hv
        case copy => exact OpS.mem (sv := Builtin.copy_ ts ty #[u, u']) h (by simp [builtin]) fun v s' hv _ => copy_sound hh hu hu' hv
        case delete =>
          simp only [Option.bind_some'] at h
          obtain ⟨t, ht, h⟩ := h
          obtain ⟨s', hs', rfl⟩ := Option.map_some'.1 h
          have ht' : ts[0]? = some t := by
            rw [List.head?_eq_getElem?] at ht; simpa using ht
          obtain ⟨w', r1, r2, r3, r4⟩ := delete_sound (P := P) (ty := ty) hh ht' hu hu' hs'
          exact ⟨φ, w', _, .tuple #[], by simp [builtin, r1], .inl rfl, .tup _ _ .nil, r2, r3⟩
        case min => exact OpS.pure (sv := Builtin.min_ ts ty #[u, u']) hh h (by simp [builtin]) fun v hv => min_sound ts ty (.cons _ _ _ _ hu (.cons _ _ _ _ hu' .nil)) hv
        case max => exact OpS.pure (sv := Builtin.max_ ts ty #[u, u']) hh h (by simp [builtin]) fun v hv => max_sound ts ty (.cons _ _ _ _ hu (.cons _ _ _ _ hu' .nil)) hv
  · exact hN h

theorem call_sound {φ : Phi} {s : St} {w : World} (hh : Rh φ s w) {a : Act} {ca : Go.Act} (ra : Ra φ a ca) {c : Call} {ty : TypeId} {args : List V} (ha : evals a c.args.toList = some args) {out : Out}
    (hf : ∀ v s', out = .val v s' → Fresh φ s.next s'.next) (h : callV P a s c args = some out) : OpS P φ s w (do let d ← resolve ca.eval c ty; invoke d.target d.args) out := by
  have hargs := evals_sound ra ha
  have hm : c.args.map ca.eval = ⟨c.args.toList.map ca.eval⟩ := by apply Array.ext'; simp
  unfold callV at h
  cases hc : c.callee with
  | builtin b =>
    rw [hc] at h
    simp only [resolve, hc, hm]
    exact builtin_sound hh hargs hf h
  | invoke r name =>
    rw [hc] at h
    simp only [Option.bind_some'] at h
    obtain ⟨v, hv, h⟩ := h
    have hr := eval_sound ra hv
    simp only [resolve, hc, hm]
    refine invokeM_sound hh (.cons _ _ _ _ hr hargs) h fun recv rest e => ?_
    cases e
    have h0 : (#[ca.eval r] ++ (⟨c.args.toList.map ca.eval⟩ : Array Value)) = ⟨ca.eval r :: c.args.toList.map ca.eval⟩ := by apply Array.ext'; simp
    have h1 : (⟨ca.eval r :: c.args.toList.map ca.eval⟩ : Array Value)[0]? = some (ca.eval r) := rfl
    have h2 : (⟨ca.eval r :: c.args.toList.map ca.eval⟩ : Array Value).extract 1 (⟨ca.eval r :: c.args.toList.map ca.eval⟩ : Array Value).size = ⟨c.args.toList.map ca.eval⟩ := by apply Array.ext'; simp; exact List.take_of_length_le (by simp)
    simp only [Sem.run_bind, Sem.run_pure, Result.andThen_ok, h0, invoke, h1, h2]
  | value f =>
    rw [hc] at h
    simp only [Option.bind_some'] at h
    obtain ⟨v, hv, q, hq, h⟩ := h
    have := asFunc_some hq; subst this
    have hr := eval_sound ra hv
    simp only [resolve, hc, hm]
    generalize hG : ca.eval f = u at hr
    cases hr with
    | func _ g _ _ cx cy hfn hx hy =>
      have hd : (Deferred.ofValue (.func g ⟨cx⟩ ⟨cy⟩) ⟨c.args.toList.map ca.eval⟩).run P w = .ok { target := .fn g ⟨cy⟩, args := ⟨cx ++ c.args.toList.map ca.eval⟩ } w := by
        have : ((⟨cx⟩ : Array Value) ++ ⟨c.args.toList.map ca.eval⟩) = ⟨cx ++ c.args.toList.map ca.eval⟩ := by apply Array.ext'; simp
        simp only [Deferred.ofValue, this, Sem.run_pure]
      have key := invokeFn_sound (P := P) (w := w) hh hfn hy (hx.append hargs) h
      have hrun : (do let d ← Deferred.ofValue (.func g ⟨cx⟩ ⟨cy⟩) ⟨c.args.toList.map ca.eval⟩; invoke d.target d.args : Sem Next).run P w = (invoke (.fn g ⟨cy⟩) ⟨cx ++ c.args.toList.map ca.eval⟩).run P w := by
        simp only [Sem.run_bind, hd, Result.andThen_ok]
      cases out <;> simp only [OpS] at key ⊢ <;> rw [hrun] <;> exact key

theorem defer_sound {φ : Phi} {s : St} {w : World} {a : Act} {ca : Go.Act} (ra : Ra φ a ca) {c : Call} {ty : TypeId} {args : List V} (ha : evals a c.args.toList = some args) {out : Out}
    (h : deferV a c args = some out) : OpS P φ s w (do pure (.defer (← resolve ca.eval c ty))) out := by
  have hargs := evals_sound ra ha
  have hm : c.args.map ca.eval = ⟨c.args.toList.map ca.eval⟩ := by apply Array.ext'; simp
  unfold deferV at h
  cases hc : c.callee with
  | builtin b => rw [hc] at h; cases h
  | invoke r name => rw [hc] at h; cases h
  | value f =>
    rw [hc] at h
    simp only [Option.bind_some'] at h
    obtain ⟨v, hv, q, hq, h⟩ := h
    have := asFunc_some hq; subst this
    cases h
    have hr := eval_sound ra hv
    simp only [resolve, hc, hm]
    generalize hG : ca.eval f = u at hr
    cases hr with
    | func _ g _ _ cx cy hfn hx hy =>
      refine ⟨{ target := .fn g ⟨cy⟩, args := ⟨cx ++ c.args.toList.map ca.eval⟩ }, ?_, .fn _ _ _ _ _ _ hfn hy (hx.append hargs)⟩
      have : ((⟨cx⟩ : Array Value) ++ ⟨c.args.toList.map ca.eval⟩) = ⟨cx ++ c.args.toList.map ca.eval⟩ := by apply Array.ext'; simp
      simp only [Deferred.ofValue, this, Sem.run_bind, Sem.run_pure, Result.andThen_ok]

theorem execA_sound {φ : Phi} {s : St} {w : World} (hh : Rh φ s w) {a : Act} {ca : Go.Act} (ra : Ra φ a ca) {o : Oper} {out : Out} (hf : ∀ v s', out = .val v s' → Fresh φ s.next s'.next)
    (h : execA P a s o.op = some out) : OpS P φ s w (execOp ca.eval o) out := by
  obtain ⟨dst, op, type, pos, after, guard⟩ := o
  simp only at h
  cases op <;> simp only [execA] at h <;> try (cases h; done)
  case move x => exact OpS.pure (sv := pure (ca.eval x)) hh h rfl fun v hv => ⟨_, rfl, eval_sound ra hv⟩
  case assign x => exact OpS.pure (sv := pure (ca.eval x)) hh h rfl fun v hv => ⟨_, rfl, eval_sound ra hv⟩
  case pick c x y =>
    refine OpS.pure (sv := do pure (if ← asBool (ca.eval c) then ca.eval x else ca.eval y)) hh h (by simp [execOp, andThen_assoc']) fun v hv => ?_
    obtain ⟨vc, hvc, hp⟩ := Option.bind_some'.1 hv
    obtain ⟨b, hb, hq⟩ := Option.bind_some'.1 hp
    have := asBoolV_some hb; subst this
    have hc := eval_sound ra hvc
    generalize ca.eval c = u at hc
    cases hc
    cases b with
    | true => exact ⟨ca.eval x, by simp [asBool], eval_sound ra hq⟩
    | false => exact ⟨ca.eval y, by simp [asBool], eval_sound ra hq⟩
  case alloc t =>
    refine OpS.mem (sv := Instr.alloc t true (.tuple #[])) h (by simp [execOp]) fun v s' hv ho => ?_
    obtain ⟨z, hz, hv⟩ := Option.bind_some'.1 hv
    obtain ⟨⟨b, s1⟩, hb, hv⟩ := Option.map_some'.1 hv
    simp only [ptrOf, Prod.mk.injEq] at hv
    obtain ⟨rfl, rfl⟩ := hv
    obtain ⟨uz, hz1, hz2⟩ := zeroOf_run (φ := φ) hz w
    obtain ⟨φ', w', u, h1, h2, h3, h4⟩ := newVar_sound (P := P) (t := t) hh hz2 hb (hf _ _ ho)
    exact ⟨φ', w', u, by simpa [Instr.alloc, hz1] using h1, h2, h3, h4⟩
  case box t x =>
    refine OpS.mem (sv := Instr.box t (ca.eval x)) h (by simp [execOp]) fun v s' hv ho => ?_
    obtain ⟨v', hv', hv⟩ := Option.bind_some'.1 hv
    obtain ⟨⟨b, s1⟩, hb, hv⟩ := Option.map_some'.1 hv
    simp only [ptrOf, Prod.mk.injEq] at hv
    obtain ⟨rfl, rfl⟩ := hv
    exact newVar_sound (t := t) hh (cells_sound (eval_sound ra hv')) hb (hf _ _ ho)
  case build t parts =>
    have hm : (parts.map fun (i, x) => (i, ca.eval x)) = ⟨parts.toList.map fun (i, x) => (i, ca.eval x)⟩ := by apply Array.ext'; simp
    refine OpS.pure (sv := Instr.build t (parts.map fun (i, x) => (i, ca.eval x))) hh h (by simp [execOp]) fun v hv => ?_
    obtain ⟨ps, hps, hv⟩ := Option.bind_some'.1 hv
    rw [hm]
    exact build_sound (evalP_sound ra hps) hv
  case buildSlice t len parts =>
    have hm : (parts.map fun (i, x) => (i, ca.eval x)) = ⟨parts.toList.map fun (i, x) => (i, ca.eval x)⟩ := by apply Array.ext'; simp
    refine OpS.mem (sv := Instr.buildSlice t len (parts.map fun (i, x) => (i, ca.eval x))) h (by simp [execOp]) fun v s' hv ho => ?_
    obtain ⟨ps, hps, hv⟩ := Option.bind_some'.1 hv
    rw [hm]
    exact buildSlice_sound hh (hf _ _ ho) (evalP_sound ra hps) hv
  case load t x =>
    refine OpS.pure (sv := Instr.loadAt t (ca.eval x)) hh h (by simp [execOp]) fun v hv => ?_
    simp only [Option.bind_some'] at hv
    obtain ⟨v', hv', p, hp, hv⟩ := hv
    exact load_sound hh (eval_sound ra hv') hp hv
  case store t x y =>
    refine OpS.unit (sv := Instr.storeAt t (ca.eval x) (ca.eval y)) h (by simp [execOp]) fun s' hv => ?_
    simp only [Option.bind_some'] at hv
    obtain ⟨v', hv', p, hp, u', hu', hv⟩ := hv
    have := asPtr_some hp; subst this
    have hx := eval_sound ra hv'
    generalize ca.eval x = u at hx
    cases hx; rename_i l hl
    obtain ⟨w', r1, r2, r3, _⟩ := stVar_sound (P := P) hh hl (eval_sound ra hu') hv
    exact ⟨w', by simp only [Instr.storeAt, Instr.sureAddr, Sem.run_bind, Sem.run_pure, Result.andThen_ok, r1], r2, r3⟩
  case nilCheck x =>
    obtain ⟨v, hv, rfl⟩ := Option.map_some'.1 h
    obtain ⟨v', hv', hv⟩ := Option.bind_some'.1 hv
    obtain ⟨rfl, hrun⟩ := nilCheck_sound (P := P) (w := w) (o := ⟨dst, .nilCheck x, type, pos, after, guard⟩) rfl (eval_sound ra hv') hv
    exact ⟨φ, w, _, _, hrun, .inl rfl, eval_sound ra hv', hh, Ext.refl _ _ _⟩
  case binOp op t x y ty =>
    refine OpS.pure (sv := do eqGuard op t x y (ca.eval x) (ca.eval y); Go.binOp op t (ca.eval x) (ca.eval y)) hh h (by simp [execOp, andThen_assoc']) fun v hv => ?_
    simp only [Option.bind_some'] at hv
    obtain ⟨v1, h1, v2, h2, hv⟩ := hv
    exact binOp_sound hh (eval_sound ra h1) (eval_sound ra h2) hv
  case unOp op t x =>
    refine OpS.pure (sv := Op.unary op (ca.eval x)) hh h (by simp [execOp]) fun v hv => ?_
    obtain ⟨v1, h1, hv⟩ := Option.bind_some'.1 hv
    exact unOp_sound (eval_sound ra h1) hv
  case convert src d x =>
    refine OpS.mem (sv := Go.convert src d (ca.eval x)) h (by simp [execOp]) fun v s' hv ho => ?_
    obtain ⟨v1, h1, hv⟩ := Option.bind_some'.1 hv
    exact convert_sound hh (hf _ _ ho) (eval_sound ra h1) hv
  case makeInterface t x =>
    refine OpS.pure (sv := Instr.makeInterface t (ca.eval x)) hh h (by simp [execOp]) fun v hv => ?_
    obtain ⟨v1, h1, hv⟩ := Option.bind_some'.1 hv
    exact makeIface_sound (eval_sound ra h1) hv
  case makeFunc fn first cap =>
    have hm1 : first.map ca.eval = ⟨first.toList.map ca.eval⟩ := by apply Array.ext'; simp
    have hm2 : cap.map ca.eval = ⟨cap.toList.map ca.eval⟩ := by apply Array.ext'; simp
    refine OpS.pure (sv := Instr.makeFunc fn (first.map ca.eval) (cap.map ca.eval)) hh h (by simp [execOp]) fun v hv => ?_
    simp only [Option.bind_some', cond_some] at hv
    obtain ⟨f1, hf1, c1, hc1, hg, hv⟩ := hv
    cases hv
    refine ⟨_, rfl, ?_⟩
    rw [hm1, hm2]
    refine .func _ _ _ _ _ _ ?_ (evals_sound ra hf1) (evals_sound ra hc1)
    cases fn <;> simp [goodFn] at hg
    · exact .func _
    · exact .method _
  case makeMap t r =>
    rw [cond_some] at h
    obtain ⟨hr, h⟩ := h
    have : r = none := by cases r <;> simp at hr ⊢
    subst this
    refine OpS.mem (sv := Instr.makeMap t none) h (by simp [execOp]) fun v s' hv ho => ?_
    obtain ⟨⟨b, s1⟩, hb, hv⟩ := Option.map_some'.1 hv
    simp only [mapOfR, Prod.mk.injEq] at hv
    obtain ⟨rfl, rfl⟩ := hv
    obtain ⟨g1, g2⟩ := alloc_sound (sk := 0) (w' := { w with heap := w.heap.push (.map #[] 0) }) hh hb (hf _ _ ho) rfl ⟨#[], 0, by simp, ⟨[], List.Perm.refl _, .nil⟩, List.Perm.refl _, rfl⟩
    exact ⟨_, _, .map (some w.heap.size), by simp [Instr.makeMap], .map b _ (upd_same _ _ _), g1, g2⟩
  case makeSlice t l c =>
    refine OpS.mem (sv := Instr.makeSlice t (ca.eval l) (ca.eval c)) h (by simp [execOp]) fun v s' hv ho => ?_
    simp only [Option.bind_some'] at hv
    obtain ⟨v1, h1, v2, h2, hv⟩ := hv
    exact makeSlice_sound hh (hf _ _ ho) (eval_sound ra h1) (eval_sound ra h2) hv
  case slice t x lo hi mx =>
    refine OpS.pure (sv := Instr.sliceAt t (ca.eval x) (lo.map ca.eval) (hi.map ca.eval) (mx.map ca.eval)) hh h (by simp [execOp]) fun v hv => ?_
    simp only [Option.bind_some'] at hv
    obtain ⟨v1, h1, v2, h2, v3, h3, v4, h4, hv⟩ := hv
    exact slice_sound (eval_sound ra h1) (evalO_sound ra h2) (evalO_sound ra h3) (evalO_sound ra h4) hv
  case fieldAddr t x f =>
    refine OpS.pure (sv := Instr.fieldAt t (ca.eval x) f) hh h (by simp [execOp]) fun v hv => ?_
    obtain ⟨v1, h1, hv⟩ := Option.bind_some'.1 hv
    exact fieldAddr_sound (eval_sound ra h1) hv
  case field t x f =>
    refine OpS.pure (sv := Instr.field t (ca.eval x) f) hh h (by simp [execOp]) fun v hv => ?_
    obtain ⟨v1, h1, hv⟩ := Option.bind_some'.1 hv
    exact field_sound (eval_sound ra h1) hv
  case indexAddr t x i =>
    refine OpS.pure (sv := Instr.indexAt t (ca.eval x) (ca.eval i)) hh h (by simp [execOp]) fun v hv => ?_
    simp only [Option.bind_some'] at hv
    obtain ⟨v1, h1, v2, h2, hv⟩ := hv
    exact indexAddr_sound (eval_sound ra h1) (eval_sound ra h2) hv
  case index t x i =>
    refine OpS.pure (sv := Instr.index t (ca.eval x) (ca.eval i)) hh h (by simp [execOp]) fun v hv => ?_
    simp only [Option.bind_some'] at hv
    obtain ⟨v1, h1, v2, h2, hv⟩ := hv
    exact index_sound (eval_sound ra h1) (eval_sound ra h2) hv
  case lookup t x k ok =>
    refine OpS.pure (sv := Instr.lookup t (ca.eval x) (ca.eval k) ok) hh h (by simp [execOp]) fun v hv => ?_
    simp only [Option.bind_some'] at hv
    obtain ⟨v1, h1, v2, h2, hv⟩ := hv
    exact lookup_sound hh (eval_sound ra h1) (eval_sound ra h2) hv
  case mapUpdate t m k x =>
    refine OpS.unit (sv := Instr.mapUpdate t (ca.eval m) (ca.eval k) (ca.eval x)) h (by simp [execOp]) fun s' hv => ?_
    simp only [Option.bind_some'] at hv
    obtain ⟨v1, h1, v2, h2, v3, h3, hv⟩ := hv
    obtain ⟨w', r1, r2, r3, _⟩ := mapUpdate_sound (P := P) hh (eval_sound ra h1) (eval_sound ra h2) (eval_sound ra h3) hv
    exact ⟨w', r1, r2, r3⟩
  case insert t m k x =>
    refine OpS.unit (sv := Instr.mapUpdate t (ca.eval m) (ca.eval k) (ca.eval x)) h (by simp [execOp]) fun s' hv => ?_
    simp only [Option.bind_some'] at hv
    obtain ⟨v1, h1, v2, h2, v3, h3, hv⟩ := hv
    obtain ⟨w', r1, r2, r3, _⟩ := mapUpdate_sound (P := P) hh (eval_sound ra h1) (eval_sound ra h2) (eval_sound ra h3) hv
    exact ⟨w', r1, r2, r3⟩
  case range t x =>
    refine OpS.mem (sv := Instr.range t (ca.eval x)) h (by simp [execOp]) fun v s' hv ho => ?_
    obtain ⟨v1, h1, hv⟩ := Option.bind_some'.1 hv
    exact range_sound hh (hf _ _ ho) (eval_sound ra h1) hv
  case next it isStr =>
    refine OpS.mem (sv := Instr.next (ca.eval it) isStr type) h (by simp [execOp]) fun v s' hv ho => ?_
    obtain ⟨v1, h1, hv⟩ := Option.bind_some'.1 hv
    exact next_sound hh (hf _ _ ho) (eval_sound ra h1) hv
  case entry it =>
    refine OpS.pure (sv := Instr.entry (ca.eval it)) hh h (by simp [execOp]) fun v hv => ?_
    obtain ⟨v1, h1, hv⟩ := Option.bind_some'.1 hv
    exact entry_sound hh (eval_sound ra h1) hv
  case typeAssert x xt asserted ok =>
    refine OpS.pure (sv := Instr.typeAssert (ca.eval x) xt asserted ok) hh h (by simp [execOp]) fun v hv => ?_
    obtain ⟨v1, h1, hv⟩ := Option.bind_some'.1 hv
    exact typeAssert_sound (eval_sound ra h1) hv
  case extract x i =>
    refine OpS.pure (sv := Instr.extract (ca.eval x) i) hh h (by simp [execOp]) fun v hv => ?_
    simp only [Option.bind_some'] at hv
    obtain ⟨v1, h1, l, hl, hv⟩ := hv
    exact extract_sound (eval_sound ra h1) hl hv
  case call c =>
    obtain ⟨args, ha, h⟩ := Option.bind_some'.1 h
    exact call_sound (ty := type) hh ra ha hf h
  case defer c =>
    obtain ⟨args, ha, h⟩ := Option.bind_some'.1 h
    exact defer_sound (ty := type) ra ha h
  case panic x =>
    obtain ⟨v, hv, h⟩ := Option.bind_some'.1 h
    cases v <;> simp only [panicV] at h <;> try (cases h; done)
    cases h
    have hx := eval_sound ra hv
    simp only [execOp]
    generalize ca.eval x = u at hx
    cases hx; rename_i u' hu'
    exact ⟨_, by simp [Instr.panic], .iface _ _ _ hu'⟩
end
end Go.Ev
