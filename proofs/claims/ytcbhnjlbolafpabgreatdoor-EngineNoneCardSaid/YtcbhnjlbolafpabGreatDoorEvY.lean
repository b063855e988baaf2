/- Calls; the evaluator as a whole. -/
import Derived.Test.YtcbhnjlbolafpabGreatDoorEvX
set_option linter.unusedSimpArgs false
set_option linter.unusedVariables false
namespace Go.Ev
section
variable {P : Program}

theorem listT_get : ∀ (l : List V) (i : Nat) (t : T V TD), i + l.length ≤ TN → ∀ j, T.get TD (listT l i t) j = if i ≤ j ∧ j < i + l.length then l[j - i]? else T.get TD t j
  | [], i, t, h, j => by simp [listT]; intro h1 h2; omega
  | v :: l, i, t, h, j => by
    simp only [List.length_cons] at h
    have hp : i < 4 ^ TD := Nat.lt_of_lt_of_le (show i < TN by omega) (by decide)
    simp only [listT, List.length_cons]
    rw [listT_get l (Nat.succ i) _ (by simp only [Nat.succ_eq_add_one]; omega) j, T.get_set]
    simp only [Nat.succ_eq_add_one]
    by_cases h1 : i + 1 ≤ j ∧ j < i + 1 + l.length
    · rw [if_pos h1, if_pos (by omega), show j - i = (j - (i + 1)) + 1 by omega]
      simp
    · rw [if_neg h1]
      by_cases h2 : j = i
      · subst h2
        rw [if_pos ⟨hp, rfl⟩, if_pos (by omega)]; simp
      · rw [if_neg (fun h => h2 h.2), if_neg (by omega)]

theorem enter_act {φ : Phi} {args : List V} {us : List Value} (ha : RvL φ args us) {fn : Func} (hn : Nat.ble (slots fn args) TN = true) (rc : Option (List PE)) :
    Ra φ ⟨listT args 0 (.nil TD), slots fn args, [], rc⟩ { tmps := (⟨us⟩ : Array Value) ++ Array.replicate (fn.ntmps - us.length) Go.undef, defers := [] } := by
  have hle : slots fn args ≤ TN := Nat.le_of_ble_eq_true hn
  have hlen := ha.length
  have hs : slots fn args = us.length + (fn.ntmps - us.length) := by
    unfold slots
    cases hb : Nat.ble args.length fn.ntmps with
    | true => have := Nat.le_of_ble_eq_true hb; simp only [cond_true]; omega
    | false =>
      have : ¬ args.length ≤ fn.ntmps := fun h => by rw [Nat.ble_eq_true_of_le h] at hb; cases hb
      simp only [cond_false]; omega
  refine ⟨⟨by simp [hs], hle, fun i => ?_⟩, .nil⟩
  rw [listT_get args 0 (.nil TD) (by omega) i, T.get_nil]
  simp only [Nat.zero_le, true_and, Nat.zero_add, Nat.sub_zero]
  by_cases hi : i < args.length
  · rw [if_pos hi]
    have hv : args[i]? = some args[i] := by simp [hi]
    obtain ⟨u, hu, hr⟩ := ha.get i _ hv
    have : ((⟨us⟩ : Array Value) ++ Array.replicate (fn.ntmps - us.length) Go.undef).getD i Go.undef = u := by
      rw [Array.getD_eq_getD_getElem?, Array.getElem?_append_left (by simp; omega)]
      simp [hu]
    rw [this, hv]; exact hr
  · rw [if_neg hi]
    have : ((⟨us⟩ : Array Value) ++ Array.replicate (fn.ntmps - us.length) Go.undef).getD i Go.undef = Go.undef := by
      rw [Array.getD_eq_getD_getElem?, Array.getElem?_append_right (by simp; omega)]
      simp only [Array.getElem?_replicate]
      split <;> rfl
    rw [this]; exact Rv.undef

def NoCount (P : Program) : Prop := ∀ (f : FuncId) fn, P.funcs[f]? = some fn → fn.body.isSome = true → fn.name ≠ "runtime.NumGoroutine"

theorem callFunc_run (hN : NoCount P) {f : FuncId} {fn : Func} {c : Code} (hf : P.funcs[f]? = some fn) (hb : fn.body = some c) (args : Array Value) (w : World) : (callFunc f args).run P w = .ok (.enter f args) w := by
  have h1 : fn.name ≠ "runtime.NumGoroutine" := hN f fn hf (by simp [hb])
  simp [callFunc, hf, h1, hb]

/-- a function's own code, whoever waits for it -/
theorem enter_sound {r : R} (hr : Sound P r) (hC : ∀ c, CodeC P r c) (hnx : NxR r) (hN : NoCount P) {f : FuncId} {args : List V} {rc : Option (List PE)} {s : St} {e : End} {rc' : Option (List PE)} {s' : St} (h : enterF P r f args rc s = some (e, rc', s'))
    {φ : Phi} {w : World} {us : List Value} {X : Cx} {u : List PanicEntry} (hh : Rh φ s w) (ha : RvL φ args us) (hrc : RRc φ rc X u) (hf : Fresh φ s.next s'.next) :
    (callFunc f ⟨us⟩).run P w = .ok (.enter f ⟨us⟩) w ∧ ∃ φ' w' u' fr e', Rh φ' s' w' ∧ Ext φ s w φ' s' w' ∧ REnd φ' e e' ∧ RRc φ' rc' X u' ∧
      Steps P (lone (Frame.enter P f ⟨us⟩ X.kind) (X.list u) w) (lone fr (X.list u') w') ∧ fr.fn = f ∧ fr.kind = X.kind ∧ fr.going P w' e' := by
  unfold enterF at h
  simp only [Option.bind_some', cond_some] at h
  obtain ⟨fn, hfn, c, hc, hn, ⟨ex, a1, s1⟩, hq, h⟩ := h
  refine ⟨callFunc_run hN hfn hc _ _, ?_⟩
  let b : Frame := { (default : Frame) with fn := f, kind := X.kind, roundOf := none }
  let ca : Go.Act := { tmps := (⟨us⟩ : Array Value) ++ Array.replicate (fn.ntmps - us.length) Go.undef, defers := [] }
  have hfr : Frame.enter P f ⟨us⟩ X.kind = b.atR ca [.code c] := by simp [Frame.enter, Frame.atR, hfn, hc, b, ca]
  have hpre : Pre φ s w none ⟨listT args 0 (.nil TD), slots fn args, [], rc⟩ b ca X u := ⟨hh, enter_act ha hn rc, hrc, rfl, trivial⟩
  rw [hfr]
  -- behind the body: the deferred calls
  have key : ∀ (ch : Option (List PE)), ch ≠ some [] → withRc a1.rc (r.leave f a1.tmps a1.defers ch s1) = some (e, rc', s') → s1.next ≤ s'.next ∧ ∀ {φ1 : Phi} {w1 : World} {ca1 : Go.Act} {u1 chain : List PanicEntry} {todo : List Item},
      Pre φ1 s1 w1 none a1 b ca1 X u1 → Ext φ s w φ1 s1 w1 → RPs φ1 (ch.getD []) chain → Steps P (lone (b.atR ca [.code c]) (X.list u) w) (lone { b.atR ca1 todo with mode := um chain } (X.list u1) w1) →
      ∃ φ' w' u' fr e', Rh φ' s' w' ∧ Ext φ s w φ' s' w' ∧ REnd φ' e e' ∧ RRc φ' rc' X u' ∧
      Steps P (lone (b.atR ca [.code c]) (X.list u) w) (lone fr (X.list u') w') ∧ fr.fn = f ∧ fr.kind = X.kind ∧ fr.going P w' e' := by
    intro ch hch0 hx
    unfold withRc at hx
    obtain ⟨⟨e2, s2⟩, hl, hx⟩ := Option.map_some'.1 hx
    simp only [Prod.mk.injEq] at hx
    obtain ⟨rfl, rfl, rfl⟩ := hx
    refine ⟨hnx.leave hl, fun hp1 he1 hch hst => ?_⟩
    rename_i φ1 w1 ca1 u1 chain todo
    obtain ⟨φ', w', fr', e', k1, k2, k3, k4, k5, k6, k7⟩ := hr.leave hl (fr := { b.atR ca1 todo with mode := um chain }) (cs := X.list u1) hp1.hh rfl ⟨fn, hfn⟩ hp1.ha.t hp1.ha.d hch hch0 rfl (hf.ext he1)
    exact ⟨φ', w', u1, fr', e', k1, he1.trans k2, k3, hp1.hrc.mono k2.le, hst.trans k4, k5, k6, k7⟩
  unfold leaving at h
  cases ex with
  | exit id => simp only at h; cases h
  | norm =>
    simp only at h
    obtain ⟨hle, k⟩ := key none (by simp) h
    obtain ⟨φ1, w1, ca1, u1, g1, g2, g3⟩ := hC _ hq (k := []) hpre (hf.sub (Nat.le_refl _) hle)
    exact k g1 g2 .nil (Steps.trans g3 (.one (stepR_end rfl)))
  | ret =>
    simp only at h
    obtain ⟨hle, k⟩ := key none (by simp) h
    obtain ⟨φ1, w1, ca1, u1, g1, g2, todo, g3⟩ := hC _ hq (k := []) hpre (hf.sub (Nat.le_refl _) hle)
    exact k g1 g2 .nil (Steps.trans g3 (.one (stepR_ret rfl)))
  | pan ch =>
    simp only at h
    by_cases hch : ch = []
    · subst hch
      have hle : s1.next ≤ s'.next := by
        unfold withRc at h
        obtain ⟨⟨e2, s2⟩, hl, hx⟩ := Option.map_some'.1 h
        simp only [Prod.mk.injEq] at hx
        obtain ⟨rfl, rfl, rfl⟩ := hx
        exact hnx.leave hl
      obtain ⟨φ1, w1, ca1, u1, g1, g2, todo, chain, hc0, _⟩ := hC _ hq (k := []) hpre (hf.sub (Nat.le_refl _) hle)
      exact absurd rfl hc0
    · obtain ⟨hle, k⟩ := key (some ch) (by simpa using hch) h
      obtain ⟨φ1, w1, ca1, u1, g1, g2, todo, chain, hc0, hc1, _, g3⟩ := hC _ hq (k := []) hpre (hf.sub (Nat.le_refl _) hle)
      exact k (chain := chain) (todo := todo) g1 g2 hc1 (by rw [um_of_ne (hc1.ne hc0)]; exact g3)

theorem rend_ne {φ : Phi} {e : End} (h : REnd φ e .outgrown) : False := by cases e <;> exact h
theorem call_sound' {hook : Hook} {r : R} (hr : Sound P r) (hC : ∀ c, CodeC P r c) (hnx : NxR r) (hN : NoCount P) (hH : HookS P hook) {f : FuncId} {args : List V} {s : St} {e : End} {rc' : Option (List PE)} {s' : St} (h : callF P hook r f args none s = some (e, rc', s'))
    {φ : Phi} {w : World} {us : List Value} (hh : Rh φ s w) (ha : RvL φ args us) (hf : Fresh φ s.next s'.next) : Done P ((callFunc f ⟨us⟩).run P w) (Post φ s w s' e) := by
  unfold callF at h
  split at h
  · rename_i res hres
    rw [cond_none_some] at h
    obtain ⟨_, h⟩ := h
    obtain ⟨⟨v, s1⟩, hv, h⟩ := Option.map_some'.1 h
    cases h
    exact hH (hres.trans (by rw [hv])) hh ha hf
  · refine .inr ⟨f, ⟨us⟩, w, (enter_sound hr hC hnx hN h (X := .norm []) (u := []) hh ha trivial hf).1, fun cs => ?_⟩
    obtain ⟨_, φ', w', u', fr, e', k1, k2, k3, k4, k5, k6, k7, k8⟩ := enter_sound hr hC hnx hN h (X := .norm cs) (u := []) hh ha trivial hf
    refine ⟨e', w', fr, ⟨φ', k1, k2, k3⟩, ?_, k6, ?_⟩
    · cases e' with
      | returned v => exact k5
      | panicked chain => exact k5
      | outgrown => exact (rend_ne k3).elim
    · cases e' with
      | returned v => obtain ⟨h1, h2, fn, h3, h4⟩ := k8; exact ⟨h1, h2, k7, fn, h3, h4⟩
      | panicked chain => exact k8
      | outgrown => trivial

theorem callD_sound {hook : Hook} {r : R} (hr : Sound P r) (hC : ∀ c, CodeC P r c) (hnx : NxR r) (hN : NoCount P) {f : FuncId} {args : List V} {l : List PE} {s : St} {e : End} {rc' : Option (List PE)} {s' : St} (h : callF P hook r f args (some l) s = some (e, rc', s'))
    {φ : Phi} {w : World} {us : List Value} {u : List PanicEntry} (hh : Rh φ s w) (ha : RvL φ args us) (hu : RPs φ l u) (hf : Fresh φ s.next s'.next) :
    (callFunc f ⟨us⟩).run P w = .ok (.enter f ⟨us⟩) w ∧ ∃ l', rc' = some l' ∧ ∀ (c : Frame) (cs : List Frame), ∃ φ' w' u' fr e', Rh φ' s' w' ∧ Ext φ s w φ' s' w' ∧ REnd φ' e e' ∧ RPs φ' l' u' ∧
    Steps P (lone (Frame.enter P f ⟨us⟩ .deferred) ({ c with mode := um u } :: cs) w) (lone fr ({ c with mode := um u' } :: cs) w') ∧ fr.kind = .deferred ∧ fr.going P w' e' := by
  unfold callF at h
  split at h
  · rw [cond_none_some] at h
    obtain ⟨h0, _⟩ := h
    cases h0
  · have key := fun c cs => enter_sound hr hC hnx hN h (X := .dfr c cs) (u := u) hh ha hu hf
    refine ⟨(key default []).1, ?_⟩
    cases rc' with
    | none => obtain ⟨_, _, _, _, _, _, _, _, _, h4, _⟩ := key default []; exact h4.elim
    | some l' =>
      refine ⟨l', rfl, fun c cs => ?_⟩
      obtain ⟨_, φ', w', u', fr, e', k1, k2, k3, k4, k5, k6, k7, k8⟩ := key c cs
      exact ⟨φ', w', u', fr, e', k1, k2, k3, k4, k5, k7, k8⟩

theorem none_sound : Sound P R.none :=
  ⟨fun h => (by cases h), fun h => (by cases h), fun h => (by cases h), fun h => (by cases h)⟩

/-- WHAT THE EVALUATOR ANSWERS, THE MACHINE DOES. -/
theorem ev_sound {hook : Hook} (hN : NoCount P) (hH : HookS P hook) (hX : HookNx hook) (hD : ∀ {r : R}, Sound P r → NxR r → DrawS P r) : ∀ n, Sound P (ev P hook n)
  | 0 => none_sound
  | n + 1 => by
    have hr := ev_sound hN hH hX hD n
    have hnx := ev_nx (P := P) hX n
    have hC : ∀ c, CodeC P (ev P hook n) c := fun c => code_sound hr hnx (hD hr hnx) c
    exact ⟨fun hx _ _ _ hh ha hf => call_sound' hr hC hnx hN hH hx hh ha hf,
      fun hx _ _ _ _ hh ha hu hf => callD_sound (hook := hook) hr hC hnx hN hx hh ha hu hf, fun hx _ _ _ _ hL hh ha hf => round_sound hr hC hnx hx hL hh ha hf,
      fun hx _ _ _ _ _ _ hh h1 h2 h3 h4 h5 h6 h7 hf => leave_sound hr hnx hx hh h1 h2 h3 h4 h5 h6 h7 hf⟩
end
end Go.Ev
