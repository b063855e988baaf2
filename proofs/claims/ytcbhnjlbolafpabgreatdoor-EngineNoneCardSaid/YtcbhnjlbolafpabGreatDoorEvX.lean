/- Leaving a function; calls; the evaluator as a whole. -/
import Derived.Test.YtcbhnjlbolafpabGreatDoorEvW
set_option linter.unusedSimpArgs false
set_option linter.unusedVariables false
namespace Go.Ev
section
variable {P : Program}

def resS (ct : Array Value) : ResultVar → Sem Value
  | .tmp t => pure (ct.getD t Go.undef)
  | .cell a t => do loadVar t (← asAddr (ct.getD a Go.undef))
theorem results_eq (fn : Func) (ct : Array Value) : results fn ct = (do
    let vs ← fn.results.mapM (resS ct)
    pure (if h : vs.size = 1 then vs[0] else .tuple vs)) := by
  unfold results
  congr 2

theorem resultsV_sound {φ : Phi} {s : St} {w : World} (hh : Rh φ s w) {tm : T V TD} {n : Nat} {ct : Array Value} (ht : RT φ tm n ct) : ∀ {rs : List ResultVar} {l : List V}, resultsV P s tm rs = some l →
    ∃ us, (rs.mapM (resS ct)).run P w = .ok us w ∧ RvL φ l us
  | [], l, h => by cases h; exact ⟨[], by simp, .nil⟩
  | x :: rs, l, h => by
    unfold resultsV at h
    obtain ⟨v, hv, h⟩ := Option.bind_some'.1 h
    obtain ⟨l', hl', rfl⟩ := Option.map_some'.1 h
    obtain ⟨us, h1, h2⟩ := resultsV_sound hh ht hl'
    have key : ∃ u, (resS ct x).run P w = .ok u w ∧ Rv φ v u := by
      cases x with
      | tmp t => simp only [resultOne] at hv; cases hv; exact ⟨_, rfl, ht.slot t⟩
      | cell a t =>
        simp only [resultOne] at hv
        obtain ⟨p, hp, hv⟩ := Option.bind_some'.1 hv
        have := asPtr_some hp
        have hs := ht.slot a
        rw [this] at hs
        generalize hG : ct.getD a Go.undef = cu at hs
        cases hs
        rename_i L hL
        obtain ⟨u, g1, g2⟩ := ldVar_sound (P := P) hh hL hv
        exact ⟨u, by simp only [resS, hG, asAddr, Sem.run_bind, Sem.run_pure, Result.andThen_ok, g1], g2⟩
    obtain ⟨u, k1, k2⟩ := key
    refine ⟨u :: us, ?_, .cons _ _ _ _ k2 h2⟩
    simp only [List.mapM_cons, Sem.run_bind, k1, Result.andThen_ok, h1, Sem.run_pure]

theorem results_sound {φ : Phi} {s : St} {w : World} (hh : Rh φ s w) {tm : T V TD} {n : Nat} {ct : Array Value} (ht : RT φ tm n ct) {fn : Func} {l : List V} (h : resultsV P s tm fn.results.toList = some l) :
    ∃ u, (results fn ct).run P w = .ok u w ∧ Rv φ (tupOf l) u := by
  obtain ⟨us, h1, h2⟩ := resultsV_sound hh ht h
  have hm : (fn.results.mapM (resS ct)).run P w = .ok ⟨us⟩ w := by
    rw [Array.mapM_eq_mapM_toList, Sem.run_map, h1]; rfl
  have hrun : (results fn ct).run P w = .ok (if h : (⟨us⟩ : Array Value).size = 1 then (⟨us⟩ : Array Value)[0] else .tuple ⟨us⟩) w := by
    rw [results_eq, Sem.run_bind, hm]
    rfl
  refine ⟨_, hrun, ?_⟩
  cases h2 with
  | nil => exact .tup _ _ .nil
  | cons v u l m hv hl =>
    cases hl with
    | nil => simpa [tupOf] using hv
    | cons v' u' l' m' hv' hl' => simpa [tupOf] using Rv.tup _ _ (.cons _ _ _ _ hv (.cons _ _ _ _ hv' hl'))

theorem settle_um {φ : Phi} {l : List PE} {u : List PanicEntry} (h : RPs φ l u) : ∃ u', settle (um u) = um u' ∧ RPs φ ((settleA (some l)).getD []) u' ∧ settleA (some l) ≠ some [] := by
  cases h with
  | nil => exact ⟨[], rfl, .nil, by simp [settleA]⟩
  | cons v rcv cu l' m' hv hl =>
    cases rcv with
    | true => exact ⟨[], by simp only [um, settle]; rw [hl.noGoexit], .nil, by simp [settleA]⟩
    | false => exact ⟨_, rfl, .cons _ _ _ _ _ hv hl, by simp [settleA]⟩
theorem raised_um (u chain : List PanicEntry) (hc : chain ≠ []) : raised (um u) chain = um (chain ++ u) := by
  have : chain ++ u ≠ [] := by simp [hc]
  rw [um_of_ne this]
  cases u with
  | nil => simp [um, raised]
  | cons => simp [um, raised]

theorem step_collected {fr : Frame} {cs : List Frame} {w w' : World} {B : Nat} {a : Array Value} {ds calls : List Deferred} (hm : fr.mode ≠ .run) (hd : fr.defers = { target := .collected B, args := a } :: ds)
    (ht : (Instr.takeDeferred B).run P w = .ok calls w') : Go.step P (lone fr cs w) = .next (lone { fr with defers := calls ++ ds } cs w') := by
  refine step_lone_go ?_
  cases hmode : fr.mode with
  | run => exact absurd hmode hm
  | returning => simp [stepG, unwind, hmode, hd, Sem.runT_eq, ht, GStep.bare_after]
  | panicking chain => simp [stepG, unwind, hmode, hd, Sem.runT_eq, ht, GStep.bare_after]

theorem leave_sound {r : R} (hr : Sound P r) (hnx : NxR r) : ∀ {f tm ds u s e s'}, leaveF P r f tm ds u s = some (e, s') → ∀ {φ w fr cs size chain}, Rh φ s w → fr.fn = f → (∃ fn, P.funcs[f]? = some fn) → RT φ tm size fr.tmps →
    RDs φ ds fr.defers → RPs φ (u.getD []) chain → u ≠ some [] → fr.mode = um chain → Fresh φ s.next s'.next →
    ∃ φ' w' fr' e', Rh φ' s' w' ∧ Ext φ s w φ' s' w' ∧ REnd φ' e e' ∧ Steps P (lone fr cs w) (lone fr' cs w') ∧ fr'.fn = f ∧ fr'.kind = fr.kind ∧ fr'.going P w' e' := by
  intro f tm ds u s e s' h φ w fr cs size chain hh hfn hfe ht hds hu hu0 hm hf
  unfold leaveF at h
  split at h
  · generalize hdd : fr.defers = dd at hds
    cases hds
    split at h
    · rename_i ch
      cases h
      have hu' : RPs φ ch chain := hu
      have hch : ch ≠ [] := fun e => hu0 (by rw [e])
      obtain ⟨fn, hfn'⟩ := hfe
      exact ⟨φ, w, fr, .panicked chain, hh, Ext.refl _ _ _, ⟨hch, hu'⟩, .refl _ _, hfn, rfl, by rw [hm, um_of_ne (hu'.ne hch)], hdd, fn, hfn ▸ hfn'⟩
    · have := RPs.eq_nil hu
      subst this
      obtain ⟨fn, hfn', h⟩ := Option.bind_some'.1 h
      obtain ⟨l, hl, h⟩ := Option.map_some'.1 h
      cases h
      obtain ⟨cu, g1, g2⟩ := results_sound hh ht hl
      exact ⟨φ, w, fr, .returned cu, hh, Ext.refl _ _ _, g2, .refl _ _, hfn, rfl, hm, hdd, fn, hfn ▸ hfn', g1⟩
  · rename_i d ds'
    generalize hdd : fr.defers = dd at hds
    cases hds
    rename_i cd m hd hds'
    unfold leaveOne at h
    split at h
    · rename_i dblk
      obtain ⟨bk, hbk, h⟩ := Option.bind_some'.1 h
      split at h
      case h_2 => cases h
      cases hd with
      | coll _ L hL =>
        have hb := hh.blk _ _ _ hL hbk
        have htk := takeDeferred_run (P := P) hb
        obtain ⟨y1, y2⟩ := set_sound (x' := .dead) (o := .deferred none) hh hL hbk trivial (fun _ _ => trivial)
        have hst := step_collected (P := P) (cs := cs) (hm ▸ um_ne chain) hdd htk
        obtain ⟨φ', w', fr', e', k1, k2, k3, k4, k5, k6, k7⟩ := hr.leave h (fr := { fr with defers := [] ++ m }) (cs := cs) y1 hfn hfe ht hds' hu hu0 hm (hf.ext y2)
        exact ⟨φ', w', fr', e', k1, y2.trans k2, k3, .head hst k4, k5, k6, k7⟩
    · rename_i gf cap args
      split at h
      case h_2 => cases h
      rename_i g
      obtain ⟨⟨e1, rc1, s1⟩, hc, h⟩ := Option.bind_some'.1 h
      simp only at h
      cases hd with
      | fn _ cg _ _ ccap cargs hfnr hcap hargs =>
        cases hfnr
        have hn : s1.next ≤ s'.next := by
          cases e1 <;> exact hnx.leave h
        obtain ⟨hrun, l', rfl, hcall⟩ := hr.callD hc hh (hargs.append hcap) hu (hf.sub (Nat.le_refl _) hn)
        have hinv : (invoke (.fn (.func g) ⟨ccap⟩) ⟨cargs⟩).run P w = .ok (.enter g ⟨cargs ++ ccap⟩) w := by
          have : ((⟨cargs⟩ : Array Value) ++ ⟨ccap⟩) = ⟨cargs ++ ccap⟩ := by apply Array.ext'; simp
          simp only [invoke, this, hrun]
        have hst := step_defer (P := P) (fr := fr) (cs := cs) (hm ▸ um_ne chain) hdd rfl hinv
        obtain ⟨φ1, w1, u1, frX, e', k1, k2, k3, k4, k5, k6, k7⟩ := hcall { fr with defers := m } cs
        have hst : Go.step P (lone fr cs w) = .next (lone (Frame.enter P g ⟨cargs ++ ccap⟩ .deferred) ({ { fr with defers := m } with mode := um chain } :: cs) w) := by
          rw [hst]; simp only [← hm]
        cases e1 with
        | ret rv =>
          cases e' with
          | panicked _ => exact k3.elim
          | outgrown => exact k3.elim
          | returned cv =>
            simp only at h
            have h2 := step_going_returned (P := P) (c := { { fr with defers := m } with mode := um u1 }) (cs := cs) k6 k7
            obtain ⟨u2, z1, z2, z3⟩ := settle_um k4
            obtain ⟨φ', w', fr', e'', q1, q2, q3, q4, q5, q6, q7⟩ := hr.leave h (fr := { { { fr with defers := m } with mode := um u1 } with mode := settle (um u1) }) (cs := cs) k1 hfn hfe (ht.mono k2.le) (hds'.mono k2.le) z2 z3 z1 (hf.ext k2)
            exact ⟨φ', w', fr', e'', q1, k2.trans q2, q3, (Steps.head hst (k5.trans (.one h2))).trans q4, q5, q6, q7⟩
        | pan ch =>
          cases e' with
          | returned _ => exact k3.elim
          | outgrown => exact k3.elim
          | panicked chain' =>
            simp only [Option.getD_some] at h
            have h2 := step_going_panicked (P := P) (c := { { fr with defers := m } with mode := um u1 }) (cs := cs) k7
            obtain ⟨φ', w', fr', e'', q1, q2, q3, q4, q5, q6, q7⟩ := hr.leave h (fr := { { { fr with defers := m } with mode := um u1 } with mode := raised (um u1) chain' }) (cs := cs) k1 hfn hfe (ht.mono k2.le) (hds'.mono k2.le)
              (show RPs φ1 _ (chain' ++ u1) from k3.2.append k4) (by simp [k3.1]) (raised_um _ _ (k3.2.ne k3.1)) (hf.ext k2)
            exact ⟨φ', w', fr', e'', q1, k2.trans q2, q3, (Steps.head hst (k5.trans (.one h2))).trans q4, q5, q6, q7⟩
end
end Go.Ev
