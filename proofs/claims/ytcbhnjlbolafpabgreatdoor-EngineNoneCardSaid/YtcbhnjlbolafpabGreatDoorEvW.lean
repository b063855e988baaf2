/- Every piece of code: what the evaluator runs, the machine runs. -/
import Derived.Test.YtcbhnjlbolafpabGreatDoorEvV
set_option linter.unusedSimpArgs false
set_option linter.unusedVariables false
namespace Go.Ev
section
variable {P : Program}

section moves
variable {b : Frame} {a : Go.Act} {k : List Item} {cs : List Frame} {w : World}
theorem stepR_scope {c : Code} : Go.step P (lone (b.atR a (.code (.scope c) :: k)) cs w) = .next (lone (b.atR a (.code c :: .inScope c :: k)) cs w) :=
  step_lone_go (by simp [stepG, stepG.exec, Frame.atR])
theorem stepR_inScope {c : Code} : Go.step P (lone (b.atR a (.inScope c :: k)) cs w) = .next (lone (b.atR a k) cs w) :=
  step_lone_go (by simp [stepG, stepG.exec, Frame.atR])
theorem stepR_rangeFunc_value {g : Operand} {ps : Array Tmp} {assign body : Code} {l : Nat} {mark : List Deferred} {w₁ w₁' w₂ : World} {d : Deferred} {v : Value}
    (he : (Instr.enterLoop b.fn a.tmps ps assign body b.roundOf).run P w = .ok (l, mark) w₁)
    (hres : (resolve a.eval (rangeCall g l) 0).run P w₁ = .ok d w₁') (hinv : (invoke d.target d.args).run P w₁' = .ok (.value v) w₂) :
    Go.step P (lone (b.atR a (.code (.rangeFunc g ps assign body) :: k)) cs w) =
      .next (lone ((b.atR { a with defers := mark ++ a.defers } (.inRangeFunc l :: k)).finish v) cs w₂) :=
  step_lone_go (by
    have hev := Frame.eval_atR b { a with defers := mark ++ a.defers } (.inRangeFunc l :: k)
    simp only [Frame.atR] at hev
    have hres' : Sem.run P (resolve ({ tmps := a.tmps, defers := mark ++ a.defers } : Go.Act).eval { callee := .value g, args := #[.const (.func (.yield l) #[] #[])], argTypes := #[] } 0) w₁ = .ok d w₁' := hres
    simp [stepG, stepG.exec, Frame.atR, Sem.runT_eq, he, GStep.bare_after, stepG.apply, hev, Sem.run_bind, hres', hinv, Result.andThen])
end moves

theorem code_end {φ : Phi} {s : St} {w : World} {ro : Option Nat} {a : Act} {b : Frame} {ca : Go.Act} {k : List Item} {X : Cx} {u : List PanicEntry} (hp : Pre φ s w ro a b ca X u) {m : Machine} {e : Ex}
    (h : Arr P φ m b k (X.list u) ca w e) : Cc P φ s w ro b k X m (e, a, s) := ⟨φ, w, ca, u, hp, Ext.refl _ _ _, h⟩

theorem enterLoop_run {w : World} (fn : FuncId) (tmps : Array Value) (params : Array Tmp) (asg body : Code) :
    (Instr.enterLoop fn tmps params asg body none).run P w = .ok (w.heap.size + 1, [{ target := .collected w.heap.size, args := #[] }])
      { w with heap := (w.heap.push (.deferred (some []))).push (.loop { state := .ready, pending := none, fn, tmps, params, assign := asg, body, defers := w.heap.size }) } := by
  simp only [Instr.enterLoop, Sem.run_bind, run_newObj, Result.andThen_ok, Sem.run_pure, Array.size_push]

theorem rangeFunc_sound {r : R} (hr : Sound P r) (hnx : NxR r) {φ : Phi} {s : St} {w : World} {ro : Option Nat} {a : Act} {b : Frame} {ca : Go.Act} {k : List Item} {X : Cx} {u : List PanicEntry} (hp : Pre φ s w ro a b ca X u)
    {f : Operand} {params : Array Tmp} {asg body : Code} {x : Ex × Act × St} (hx : rangeFuncF r ro f params asg body a s = some x) (hf : Fresh φ s.next x.2.2.next) :
    Cc P φ s w ro b k X (lone (b.atR ca (.code (.rangeFunc f params asg body) :: k)) (X.list u) w) x := by
  unfold rangeFuncF at hx
  rw [cond_none_some] at hx
  obtain ⟨hro, hx⟩ := hx
  have hron : ro = none := by cases ro <;> simp_all
  subst hron
  have hbro : b.roundOf = none := by
    have := hp.hro
    cases hb : b.roundOf with
    | none => rfl
    | some l => rw [hb] at this; exact this.elim
  simp only [Option.bind_some'] at hx
  obtain ⟨⟨d, s1⟩, hd, ⟨l, s2⟩, hl, hx⟩ := hx
  unfold goLoop at hx
  simp only [Option.bind_some'] at hx
  obtain ⟨v, hv, q, hq, hx⟩ := hx
  have := asFunc_some hq; subst this
  obtain ⟨qf, q1, q2⟩ := q
  simp only at hx
  have n1 : s.next ≤ s1.next := new_next hd
  have n2 : s1.next ≤ s2.next := new_next hl
  split at hx
  case h_2 => cases hx
  rename_i g
  unfold afterLoop at hx
  cases hc : r.call g (q1 ++ (.func (.yield l) [] [] :: q2)) none s2 with
  | none => rw [hc] at hx; simp only [dropRc] at hx; cases hx
  | some q =>
    obtain ⟨e, rc', s3⟩ := q
    rw [hc] at hx
    simp only [dropRc] at hx
    have n3 : s2.next ≤ s3.next := hnx.call hc
    have n4 : s3.next ≤ x.2.2.next := by
      cases e with
      | ret _ =>
        simp only at hx
        obtain ⟨bk, _, hx⟩ := Option.bind_some'.1 hx
        unfold killLoop at hx
        split at hx
        · cases hx
        · cases hx; exact Nat.le_refl _
        · unfold pendF at hx
          split at hx
          · cases hx; exact Nat.le_refl _
          · cases hx; exact Nat.le_refl _
          · cases hx
        · cases hx
      | pan _ => cases hx; exact Nat.le_refl _
    -- the two blocks
    let w1 : World := { w with heap := w.heap.push (.deferred (some [])) }
    obtain ⟨i1, i2⟩ := alloc_sound (sk := 0) (w' := w1) hp.hh hd (hf.sub (Nat.le_refl _) (by omega)) rfl
      (show Rb _ w1 ⟨w.heap.size, 0, 0⟩ .defd by simp [Rb, w1])
    have hf1 := hf.ext i2
    let lp : Loop := { state := .ready, pending := none, fn := b.fn, tmps := ca.tmps, params, assign := asg, body, defers := w.heap.size }
    let w2 : World := { w1 with heap := w1.heap.push (.loop lp) }
    have hfl := hf1.sub (Nat.le_refl _) (show s2.next ≤ x.2.2.next by omega)
    have hupd : PLe (upd φ d ⟨w.heap.size, 0, 0⟩) (upd (upd φ d ⟨w.heap.size, 0, 0⟩) l ⟨w1.heap.size, 0, 0⟩) := by
      obtain ⟨e0, e1, _, _⟩ := St.new_spec hl
      subst e0
      exact upd_le (hfl _ (Nat.le_refl _) (by omega))
    obtain ⟨j1, j2⟩ := alloc_sound (sk := 0) (w' := w2) i1 hl hfl rfl
      (show Rb _ w2 ⟨w1.heap.size, 0, 0⟩ (.loop .ready none a.tmps a.size params.toList asg body) from
        ⟨lp, by simp [w2], rfl, rfl, (hp.ha.t.mono i2.le).mono hupd, rfl, rfl, rfl⟩)
    have e2 := i2.trans j2
    have hsz : w1.heap.size = w.heap.size + 1 := by simp [w1]
    have hLl : (upd (upd φ d ⟨w.heap.size, 0, 0⟩) l ⟨w1.heap.size, 0, 0⟩) l = some ⟨w1.heap.size, 0, 0⟩ := upd_same _ _ _
    have hLd : (upd (upd φ d ⟨w.heap.size, 0, 0⟩) l ⟨w1.heap.size, 0, 0⟩) d = some ⟨w.heap.size, 0, 0⟩ := hupd _ _ (upd_same _ _ _)
    generalize hφ2 : (upd (upd φ d ⟨w.heap.size, 0, 0⟩) l ⟨w1.heap.size, 0, 0⟩) = φ2 at *
    let mark : List Deferred := [{ target := .collected w.heap.size, args := #[] }]
    have henter : (Instr.enterLoop b.fn ca.tmps params asg body b.roundOf).run P w = .ok (w1.heap.size, mark) w2 := by
      rw [hbro, hsz]; exact enterLoop_run _ _ _ _ _
    have haM : Ra φ2 ⟨a.tmps, a.size, .coll d :: a.defers, a.rc⟩ { ca with defers := mark ++ ca.defers } :=
      ⟨hp.ha.t.mono e2.le, .cons _ _ _ _ (.coll d _ hLd) (hp.ha.d.mono e2.le)⟩
    have hvr := eval_sound (hp.ha.mono e2.le) (x := f) (v := .func (.func g) q1 q2) hv
    generalize hG : ca.eval f = cu at hvr
    cases hvr with
    | func _ cg _ _ cx cy hfn hcx hcy =>
      cases hfn
      have hres : (resolve ca.eval (rangeCall f w1.heap.size) 0).run P w2 = .ok { target := .fn (.func g) ⟨cy⟩, args := ⟨cx ++ [.func (.yield w1.heap.size) #[] #[]]⟩ } w2 := by
        have : ((⟨cx⟩ : Array Value) ++ #[.func (.yield w1.heap.size) #[] #[]]) = ⟨cx ++ [.func (.yield w1.heap.size) #[] #[]]⟩ := by apply Array.ext'; simp
        have hm : (#[Operand.const (.func (.yield w1.heap.size) #[] #[])] : Array Operand).map ca.eval = #[.func (.yield w1.heap.size) #[] #[]] := by apply Array.ext'; simp [Go.Act.eval]
        simp only [resolve, rangeCall, hG, Deferred.ofValue, hm, this, Sem.run_pure]
      have hinv : (invoke (.fn (.func g) ⟨cy⟩) ⟨cx ++ [.func (.yield w1.heap.size) #[] #[]]⟩).run P w2 = (callFunc g ⟨cx ++ (.func (.yield w1.heap.size) #[] #[] :: cy)⟩).run P w2 := by
        have : ((⟨cx ++ [.func (.yield w1.heap.size) #[] #[]]⟩ : Array Value) ++ ⟨cy⟩) = ⟨cx ++ (.func (.yield w1.heap.size) #[] #[] :: cy)⟩ := by apply Array.ext'; simp
        simp only [invoke, this]
      have hargs : RvL φ2 (q1 ++ (.func (.yield l) [] [] :: q2)) (cx ++ (.func (.yield w1.heap.size) #[] #[] :: cy)) :=
        hcx.append (.cons _ _ _ _ (.func _ _ _ _ _ _ (.yield l _ hLl) .nil .nil) hcy)
      have hD := hr.call hc j1 hargs ((hf.ext e2).sub (Nat.le_refl _) n4)
      obtain ⟨e', w3, hpost, hland⟩ := done_land (P := P) hD (fr := b.atR { ca with defers := mark ++ ca.defers } (.inRangeFunc w1.heap.size :: k)) (cs := X.list u)
        (m := lone (b.atR ca (.code (.rangeFunc f params asg body) :: k)) (X.list u) w) (fun w' => post_ne w')
        (fun cu w' e => .one (stepR_rangeFunc_value henter hres (by rw [← e]; exact hinv)))
        (fun g us w1 e => .one (stepR_rangeFunc henter hres (by rw [← e]; exact hinv)))
      obtain ⟨φ3, o1, o2, o3⟩ := hpost
      have e3 := e2.trans o2
      cases e with
      | pan ch =>
        cases e' with
        | returned _ => exact o3.elim
        | outgrown => exact o3.elim
        | panicked chain =>
          cases hx
          refine ⟨φ3, w3, _, u, ⟨o1, haM.mono o2.le, hp.hrc.mono e3.le, hp.hk, hp.hro.mono e3.le⟩, e3, .inRangeFunc w1.heap.size :: k, chain, o3.1, o3.2, trivial, ?_⟩
          have : Steps P _ (lone ((b.atR { ca with defers := mark ++ ca.defers } (.inRangeFunc w1.heap.size :: k)).raise chain) (X.list u) w3) := hland
          rwa [Frame.raise_atR] at this
      | ret rv =>
        cases e' with
        | panicked _ => exact o3.elim
        | outgrown => exact o3.elim
        | returned cv =>
          have hland : Steps P _ (lone ((b.atR { ca with defers := mark ++ ca.defers } (.inRangeFunc w1.heap.size :: k)).finish cv) (X.list u) w3) := hland
          rw [finish_atR_inRangeFunc] at hland
          simp only at hx
          obtain ⟨bk, hbk, hx⟩ := Option.bind_some'.1 hx
          have hL3 := o2.le _ _ hLl
          have key : ∀ st pend tm sz ps as bo, bk = .loop st pend tm sz ps as bo → st ≠ .busy → ∃ w4, Steps P (lone (b.atR ca (.code (.rangeFunc f params asg body) :: k)) (X.list u) w)
              (lone (b.atR { ca with defers := mark ++ ca.defers } ((pend.map Item.code).toList ++ k)) (X.list u) w4) ∧ Ext φ s w φ3 (s3.set l .dead) w4 ∧
              Pre φ3 (s3.set l .dead) w4 none ⟨a.tmps, a.size, .coll d :: a.defers, a.rc⟩ b { ca with defers := mark ++ ca.defers } X u := by
            rintro st pend tm sz ps as bo rfl hst
            obtain ⟨lp3, z1, z2, z3, z4, z5, z6, z7⟩ := o1.blk _ _ _ hL3 hbk
            have hend := endLoop_run (P := P) z1 (by rw [z2]; exact hst)
            obtain ⟨y1, y2⟩ := set_sound (x' := .dead) (o := .loop { lp3 with state := .exhausted }) o1 hL3 hbk trivial (fun _ _ => trivial)
            subst z3
            exact ⟨_, hland.trans (.one (stepR_endRangeFunc hend)), e3.trans y2, ⟨y1, haM.mono o2.le, hp.hrc.mono e3.le, hp.hk, hp.hro.mono e3.le⟩⟩
          unfold killLoop at hx
          split at hx
          · cases hx
          · rename_i hnb
            cases hx
            obtain ⟨w4, t1, t2, t3⟩ := key _ _ _ _ _ _ _ rfl hnb
            exact ⟨φ3, w4, _, u, t3, t2, t1⟩
          · rename_i c _ _ _ _ _ hnb
            obtain ⟨w4, t1, t2, t3⟩ := key _ _ _ _ _ _ _ rfl hnb
            refine Cc.of_steps t1 (Cc.ext t2 ?_)
            unfold pendF at hx
            split at hx
            · cases hx; exact code_end t3 ⟨k, .refl _ _⟩
            · cases hx; exact code_end t3 ⟨[], fun _ => rfl, .refl _ _⟩
            · cases hx
          · cases hx

theorem exitTo_inBlock_ne {id id' : Nat} (h : id' ≠ id) (k : List Item) : exitTo id' (.inBlock id :: k) = exitTo id' k := by
  have : (id == id') = false := by simp; exact fun e => h e.symm
  simp [exitTo, this]

theorem loopF_sound {r : R} (hnx : NxR r) {c : Code} (hc : CodeC P r c) {ro : Option Nat} : ∀ (n : Nat) {a : Act} {s : St} {x : Ex × Act × St}, loopF (codeF P r ro c) n a s = some x → ∀ {φ : Phi} {w : World} {b : Frame} {ca : Go.Act} {k : List Item} {X : Cx} {u : List PanicEntry},
    Pre φ s w ro a b ca X u → Fresh φ s.next x.2.2.next → Cc P φ s w ro b k X (lone (b.atR ca (.code c :: .inLoop c :: k)) (X.list u) w) x
  | 0, _, _, _, hx => by cases hx
  | n + 1, a, s, x, hx => fun hp hf =>
    seq_sound (i := .inLoop c) (fun _ _ => rfl) hx (fun _ _ _ h => codeF_nx hnx _ _ _ _ _ _ _ h) (fun _ _ h => loopF_nx (fun a s => codeF_nx hnx ro c a s) n _ _ _ _ _ h) hf (fun y hy hfy => hc hy hp hfy)
      (fun a' s' φ' w' ca' u' h1 h2 h3 => Cc.of_steps (.one stepR_inLoop) (loopF_sound hnx hc n h1 h2 h3))

theorem code_sound {r : R} (hr : Sound P r) (hnx : NxR r) (hD : DrawS P r) (c : Code) : CodeC P r c := by
  induction c with
  | skip => intro ro a s x hx φ w b ca k X u hp hf; cases hx; exact code_end hp (.one stepR_skip)
  | label _ => intro ro a s x hx φ w b ca k X u hp hf; cases hx; exact code_end hp (.one stepR_label)
  | ret => intro ro a s x hx φ w b ca k X u hp hf; cases hx; exact code_end hp ⟨k, .refl _ _⟩
  | exit _ => intro ro a s x hx φ w b ca k X u hp hf; cases hx; exact code_end hp ⟨[], fun _ => rfl, .refl _ _⟩
  | seq x1 y1 ihx ihy =>
    intro ro a s x hx φ w b ca k X u hp hf
    refine Cc.of_steps (.one stepR_seq) ?_
    exact seq_sound (i := .code y1) (fun _ _ => rfl) hx (fun _ _ _ h => codeF_nx hnx _ _ _ _ _ _ _ h) (fun _ _ h => codeF_nx hnx _ _ _ _ _ _ _ h) hf (fun y hy hfy => ihx hy hp hfy)
      (fun a' s' φ' w' ca' u' h1 h2 h3 => ihy h1 h2 h3)
  | cond cnd x1 y1 ihx ihy =>
    intro ro a s x hx φ w b ca k X u hp hf
    obtain ⟨t, ht, hx⟩ := Option.bind_some'.1 hx
    obtain ⟨v, hv, ht⟩ := Option.bind_some'.1 ht
    have := asBoolV_some ht; subst this
    have hc := eval_sound hp.ha hv
    generalize hG : ca.eval cnd = cu at hc
    cases hc
    refine Cc.of_steps (.one (stepR_cond hG)) ?_
    cases t with
    | true => exact ihx hx hp hf
    | false => exact ihy hx hp hf
  | block id c1 ih =>
    intro ro a s x hx φ w b ca k X u hp hf
    refine Cc.of_steps (.one stepR_block) ?_
    change blockX id (codeF P r ro c1 a s) = _ at hx
    unfold blockX at hx
    split at hx
    · rename_i id' a1 s1 hq
      cases he : Nat.beq id' id with
      | true =>
        rw [he, cond_true] at hx
        have : id' = id := Nat.eq_of_beq_eq_true he
        subst this
        cases hx
        obtain ⟨φ', w', ca', u', h1, h2, pre, hpre, h3⟩ := ih hq (k := .inBlock id' :: k) hp hf
        exact ⟨φ', w', ca', u', h1, h2, h3.trans (.one (stepR_exit (by rw [hpre]; simp [exitTo])))⟩
      | false =>
        rw [he, cond_false] at hx
        have hne : id' ≠ id := fun e => by rw [e, Nat.beq_refl] at he; cases he
        cases hx
        obtain ⟨φ', w', ca', u', h1, h2, pre, hpre, h3⟩ := ih hq (k := .inBlock id :: k) hp hf
        exact ⟨φ', w', ca', u', h1, h2, pre ++ [.inBlock id], fun k' => by rw [List.append_assoc, hpre]; exact exitTo_inBlock_ne hne _, by simpa using h3⟩
    · rename_i hne
      obtain ⟨φ', w', ca', u', h1, h2, h3⟩ := ih hx (k := .inBlock id :: k) hp hf
      obtain ⟨e, a1, s1⟩ := x
      refine ⟨φ', w', ca', u', h1, h2, ?_⟩
      cases e with
      | norm => exact h3.trans (.one stepR_inBlock)
      | exit id' => exact absurd hx (hne _ _ _)
      | ret => exact h3
      | pan ch => exact h3
  | loop c1 ih =>
    intro ro a s x hx φ w b ca k X u hp hf
    exact Cc.of_steps (.one stepR_loop) (loopF_sound hnx ih LN hx hp hf)
  | scope c1 ih =>
    intro ro a s x hx φ w b ca k X u hp hf
    refine Cc.of_steps (.one stepR_scope) ?_
    have h0 := ih hx (k := .inScope c1 :: k) hp hf
    by_cases hn : x.1 = .norm
    · obtain ⟨φ', w', ca', u', h1, h2, h3⟩ := h0
      obtain ⟨e, a1, s1⟩ := x
      simp only at hn; subst hn
      exact ⟨φ', w', ca', u', h1, h2, Steps.trans h3 (.one stepR_inScope)⟩
    · exact h0.pass (fun _ _ => rfl) hn
  | region id ops d =>
    intro ro a s x hx φ w b ca k X u hp hf
    cases d with
    | true => exact hD hx hp hf
    | false => exact region_sound hr hnx hp hx hf
  | rangeFunc f params asg body _ _ =>
    intro ro a s x hx φ w b ca k X u hp hf
    exact rangeFunc_sound hr hnx hp hx hf
  | goto _ => intro ro a s x hx; cases hx
  | refuse _ => intro ro a s x hx; cases hx
end
end Go.Ev
