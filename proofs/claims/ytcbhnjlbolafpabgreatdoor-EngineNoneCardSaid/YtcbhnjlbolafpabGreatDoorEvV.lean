/- Ranging over a function: its instructions and its rounds. -/
import Derived.Test.YtcbhnjlbolafpabGreatDoorEvU
set_option linter.unusedSimpArgs false
set_option linter.unusedVariables false
namespace Go.Ev
section
variable {P : Program}

def NoRow : Obj → Prop
  | .cells .. => False
  | _ => True
theorem run_getObj' {w : World} {B : Nat} {o : Obj} (h : w.heap[B]? = some o) (hn : NoRow o) : (getObj B).run P w = .ok o w := by
  cases o <;> first | exact hn.elim | simp [getObj, Sem.run, h]
theorem run_setObj' {w : World} {B : Nat} {o x : Obj} (h : w.heap[B]? = some x) (hn : NoRow x) : (setObj B o).run P w = .ok () { w with heap := w.heap.setIfInBounds B o } := by
  cases x <;> first | exact hn.elim | simp [setObj, Sem.run, h]
theorem getLoop_run {w : World} {B : Nat} {lp : Loop} (h : w.heap[B]? = some (.loop lp)) : (Instr.getLoop B).run P w = .ok lp w := by simp [Instr.getLoop, run_getObj' h trivial]
theorem yield_run {w : World} {B : Nat} {lp : Loop} (h : w.heap[B]? = some (.loop lp)) {args : Array Value} (hn : args.size = lp.params.size) :
    (Instr.yield B args).run P w = .ok (.round B lp.fn ((lp.params.zip args).foldl (fun tmps (t, a) => tmps.setIfInBounds t a) lp.tmps) lp.assign lp.body) w := by
  simp [Instr.yield, getLoop_run h, hn]
theorem beginRound_run {w : World} {B : Nat} {lp : Loop} (h : w.heap[B]? = some (.loop lp)) (hs : lp.state = .ready) :
    (Instr.beginRound B).run P w = .ok () { w with heap := w.heap.setIfInBounds B (.loop { lp with state := .busy }) } := by
  simp [Instr.beginRound, getLoop_run h, run_setObj' h trivial, hs]
theorem endRound_run {w : World} {B : Nat} {lp : Loop} (h : w.heap[B]? = some (.loop lp)) (j : Option Code) :
    (Instr.endRound B j).run P w = .ok (.bool j.isNone) { w with heap := w.heap.setIfInBounds B (.loop { lp with state := if j.isNone then .ready else .done, pending := j }) } := by
  simp [Instr.endRound, getLoop_run h, run_setObj' h trivial]
theorem endLoop_run {w : World} {B : Nat} {lp : Loop} (h : w.heap[B]? = some (.loop lp)) (hs : lp.state ≠ .busy) :
    (Instr.endLoop B).run P w = .ok lp.pending { w with heap := w.heap.setIfInBounds B (.loop { lp with state := .exhausted }) } := by
  have : (lp.state == LoopState.busy) = false := by simpa using hs
  simp only [Instr.endLoop, Sem.run_bind, getLoop_run h, Result.andThen_ok, this, Bool.false_eq_true, if_false, Sem.run_pure, run_setObj' h trivial]
theorem takeDeferred_run {w : World} {B : Nat} {ds : List Deferred} (h : w.heap[B]? = some (.deferred (some ds))) :
    (Instr.takeDeferred B).run P w = .ok ds { w with heap := w.heap.setIfInBounds B (.deferred none) } := by
  simp only [Instr.takeDeferred, Sem.run_bind, run_getObj' h trivial, Result.andThen_ok, run_setObj' h trivial, Sem.run_pure]

theorem catches_no {fr : Frame} (h : NoCall fr.todo) : fr.catches P = false := by
  unfold Frame.catches
  split
  · rename_i heq; rw [heq] at h; exact h.elim
  · rfl

theorem step_raise {fr c : Frame} {cs : List Frame} {w : World} {chain : List PanicEntry} (hm : fr.mode = .panicking chain) (hd : fr.defers = []) (hc : fr.catches P = false) :
    Go.step P (lone fr (c :: cs) w) = .next (lone (c.raise chain) cs w) :=
  step_lone_go (by simp [stepG, unwind, hm, hd, hc])

/-- a block that is there is written -/
theorem set_sound {φ : Phi} {s : St} {w : World} {x x' : Blk} {b : Nat} {l : Loc} {o : Obj} (h : Rh φ s w) (hb : φ b = some l) (hx : s.get b = some x) (hl : x.live)
    (hx' : ∀ w', w'.heap[l.blk]? = some o → Rb φ w' l x') : Rh φ (s.set b x') { w with heap := w.heap.setIfInBounds l.blk o } ∧ Ext φ s w φ (s.set b x') { w with heap := w.heap.setIfInBounds l.blk o } := by
  refine write_sound h hb hx hl (by simp) (fun B hB => ?_) (hx' _ ?_)
  · exact Array.getElem?_setIfInBounds_ne (fun e => hB e.symm)
  · have := h.lt b l hb
    simp [Array.getElem?_setIfInBounds, this]

theorem putParams_sound {φ : Phi} : ∀ {ps : List Tmp} {vs : List V} {us : List Value} {a a' : Act} {ca : Go.Act}, RvL φ vs us → putParams ps vs a = some a' → Ra φ a ca →
    Ra φ a' { ca with tmps := (ps.zip us).foldl (fun tmps (x : Tmp × Value) => tmps.setIfInBounds x.1 x.2) ca.tmps } ∧ us.length = ps.length ∧ a'.rc = a.rc ∧ a'.defers = a.defers
  | [], _, _, a, a', ca, .nil, h, ha => by cases h; exact ⟨ha, rfl, rfl, rfl⟩
  | [], _, _, a, a', ca, .cons _ _ _ _ _ _, h, ha => by simp [putParams] at h
  | _ :: _, _, _, a, a', ca, .nil, h, ha => by simp [putParams] at h
  | p :: ps, _, _, a, a', ca, .cons v u l m hv hl, h, ha => by
    obtain ⟨h1, h2, h3, h4⟩ := putParams_sound hl h (ha.put hv (some p))
    refine ⟨h1, by simp [h2], by rw [h3, Act.put_rc], by rw [h4, Act.put_defers]⟩

theorem fold_zip (params : Array Tmp) (us : List Value) (t : Array Value) :
    (params.zip ⟨us⟩).foldl (fun tmps (x : Tmp × Value) => tmps.setIfInBounds x.1 x.2) t = (params.toList.zip us).foldl (fun tmps (x : Tmp × Value) => tmps.setIfInBounds x.1 x.2) t := by
  rw [← Array.foldl_toList, Array.toList_zip]

theorem round_sound {r : R} (hr : Sound P r) (hC : ∀ c, CodeC P r c) (hnx : NxR r) : ∀ {l args s e s'}, roundF P r l args s = some (e, s') → ∀ {φ w us L}, φ l = some L → Rh φ s w → RvL φ args us → Fresh φ s.next s'.next →
    ∃ lf tm asg body, (Instr.yield L.blk ⟨us⟩).run P w = .ok (.round L.blk lf tm asg body) w ∧ ∀ fr cs, ∃ e' w', Post φ s w s' e e' w' ∧
      Land P fr cs (lone (Frame.round L.blk lf tm asg body .normal) (fr :: cs) w) e' w' := by
  intro l args s e s' h φ w us L hL hh ha hf
  unfold roundF at h
  obtain ⟨blk, hb, h⟩ := Option.bind_some'.1 h
  unfold startRound at h
  split at h
  case h_2 => cases h
  rename_i st pend tmps size params asg body
  simp only [Option.bind_some'] at h
  obtain ⟨a, hpa, ⟨e1, a1, s1⟩, hasg, q, hq, b2, hb2, h⟩ := h
  cases e1 <;> simp only [isNorm] at hq <;> try (cases hq; done)
  cases hq
  obtain ⟨lp, k1, k2, k3, k4, k5, k6, k7⟩ := hh.blk _ _ _ hL hb
  have hpa' := putParams_sound ha hpa (ca := { tmps := lp.tmps, defers := [] }) ⟨k4, .nil⟩
  obtain ⟨p1, p2, p3, p4⟩ := hpa'
  have hn : (⟨us⟩ : Array Value).size = lp.params.size := by
    simp only [List.size_toArray, p2, ← k5, Array.length_toList]
  refine ⟨_, _, _, _, yield_run k1 hn, fun fr cs => ?_⟩
  unfold goRound at h
  split at h
  case h_2 => cases h
  rename_i pend2 tmps2 size2 params2 asg2 body2
  obtain ⟨⟨e3, a3, s3⟩, hbody, h⟩ := Option.bind_some'.1 h
  unfold closeRound at h
  split at h
  case h_2 => cases h
  rename_i hd3
  simp only at hd3
  obtain ⟨b3, hb3, h⟩ := Option.bind_some'.1 h
  simp only at hb3 hb2 h hbody
  -- the numbers
  have n1 : s.next ≤ s1.next := codeF_nx hnx _ _ _ _ _ _ _ hasg
  have n2 : (St.set s1 l (.loop .busy pend2 tmps2 size2 params2 asg2 body2)).next ≤ s3.next := codeF_nx hnx _ _ _ _ _ _ _ hbody
  have n2 : s1.next ≤ s3.next := n2
  have n3 : s3.next ≤ s'.next := endRound_nx _ _ _ _ _ _ h
  -- the frame
  let b : Frame := { (default : Frame) with fn := lp.fn, kind := .normal, roundOf := some L.blk }
  let X : Cx := .norm (fr :: cs)
  rw [fold_zip, k5]
  let ca0 : Go.Act := { tmps := (params.zip us).foldl (fun tmps (x : Tmp × Value) => tmps.setIfInBounds x.1 x.2) lp.tmps, defers := [] }
  have hfr : Frame.round L.blk lp.fn ca0.tmps lp.assign lp.body .normal = b.atR ca0 [.code asg, .beginRound, .code body] := by
    simp [Frame.round, Frame.atR, b, k6, k7, ca0]
  show ∃ e' w', Post φ s w s' e e' w' ∧ Land P fr cs (lone (Frame.round L.blk lp.fn ca0.tmps lp.assign lp.body .normal) (fr :: cs) w) e' w'
  rw [hfr]
  have hpre : Pre φ s w (some l) a b ca0 X [] := ⟨hh, p1, by rw [p3]; trivial, rfl, L, hL, rfl⟩
  obtain ⟨φ1, w1, ca1, u1, g1, g2, g3⟩ := hC _ hasg (k := [.beginRound, .code body]) hpre (hf.sub (Nat.le_refl _) (Nat.le_trans n2 n3))
  have g3 : Steps P (lone (b.atR ca0 [.code asg, .beginRound, .code body]) (fr :: cs) w) (lone (b.atR ca1 [.beginRound, .code body]) (fr :: cs) w1) := g3
  have hL1 := g2.le _ _ hL
  obtain ⟨lp1, m1, m2, m3, m4, m5, m6, m7⟩ := g1.hh.blk _ _ _ hL1 hb2
  have hbr := beginRound_run (P := P) m1 m2
  obtain ⟨i1, i2⟩ := set_sound (x' := .loop .busy pend2 tmps2 size2 params2 asg2 body2) (o := .loop { lp1 with state := .busy }) g1.hh hL1 hb2 trivial
    (fun w' hw' => ⟨_, hw', rfl, m3, m4, m5, m6, m7⟩)
  have st2 : Steps P (lone (b.atR ca1 [.beginRound, .code body]) (fr :: cs) w1) (lone (b.atR ca1 [.code body]) (fr :: cs) { w1 with heap := w1.heap.setIfInBounds L.blk (.loop { lp1 with state := .busy }) }) :=
    .one (stepR_beginRound rfl hbr)
  have hpre1 : Pre φ1 (St.set s1 l (.loop .busy pend2 tmps2 size2 params2 asg2 body2)) { w1 with heap := w1.heap.setIfInBounds L.blk (.loop { lp1 with state := .busy }) } (some l) a1 b ca1 X u1 :=
    ⟨i1, g1.ha, g1.hrc, rfl, g1.hro⟩
  obtain ⟨φ3, w3, ca3, u3, q1, q2, q3⟩ := hC _ hbody (k := []) hpre1 ((hf.ext g2).sub (Nat.le_refl _) n3)
  have e13 := g2.trans (i2.trans q2)
  have hL3 := e13.le _ _ hL
  have st3 := g3.trans st2
  unfold endRound at h
  split at h
  case h_2 => cases h
  rename_i stz pendz tmpsz sizez paramsz asgz bodyz
  obtain ⟨lp3, z1, z2, z3, z4, z5, z6, z7⟩ := q1.hh.blk _ _ _ hL3 hb3
  have her := endRound_run (P := P) z1
  have fin : ∀ (j : Option Code) (st : LoopState), (st = if j.isNone then .ready else .done) → s' = s3.set l (.loop st j tmpsz sizez paramsz asgz bodyz) → e = .ret (.bool j.isNone) →
      Post φ s w s' e (.returned (.bool j.isNone)) { w3 with heap := w3.heap.setIfInBounds L.blk (.loop { lp3 with state := if j.isNone then .ready else .done, pending := j }) } := by
    rintro j st rfl rfl rfl
    obtain ⟨y1, y2⟩ := set_sound (x' := .loop (if j.isNone then .ready else .done) j tmpsz sizez paramsz asgz bodyz) (o := .loop { lp3 with state := if j.isNone then .ready else .done, pending := j }) q1.hh hL3 hb3 trivial
      (fun w' hw' => ⟨_, hw', rfl, rfl, z4, z5, z6, z7⟩)
    exact ⟨φ3, y1, e13.trans y2, .bool _⟩
  cases e3 with
  | norm =>
    cases h
    refine ⟨.returned (.bool true), _, fin none _ rfl rfl rfl, ?_⟩
    have q3 : Steps P (lone (b.atR ca1 [.code body]) (fr :: cs) _) (lone (b.atR ca3 []) (fr :: cs) w3) := q3
    exact (st3.trans q3).trans (.one (stepR_round_end rfl rfl (her none)))
  | ret =>
    cases h
    refine ⟨.returned (.bool false), _, fin (some .ret) _ rfl rfl rfl, ?_⟩
    obtain ⟨todo, q3⟩ := q3
    exact (st3.trans q3).trans (.one (stepR_round_ret rfl rfl (her (some .ret))))
  | exit id =>
    cases h
    refine ⟨.returned (.bool false), _, fin (some (.exit id)) _ rfl rfl rfl, ?_⟩
    obtain ⟨pre, hpre, q3⟩ := q3
    exact (st3.trans q3).trans (.one (stepR_round_exit rfl rfl (by rw [hpre]; rfl) (her (some (.exit id)))))
  | pan ch =>
    cases h
    obtain ⟨todo, chain, hc0, hc1, hnc, q3⟩ := q3
    refine ⟨.panicked chain, w3, ⟨φ3, q1.hh, e13, hc0, hc1⟩, ?_⟩
    refine (st3.trans q3).trans (.one (step_raise (fr := { b.atR ca3 todo with mode := .panicking chain }) rfl ?_ (catches_no hnc)))
    show ca3.defers = []
    have hdef : ca3.defers = [] := by
      have := q1.ha.d
      simp only [hd3] at this
      generalize ca3.defers = ds at this
      cases this; rfl
    exact hdef
end
end Go.Ev
