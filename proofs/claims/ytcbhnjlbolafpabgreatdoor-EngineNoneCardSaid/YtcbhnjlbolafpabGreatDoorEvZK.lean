/- Runs with arguments that the code looks at from outside alone; the fast evaluator's answers as the machine's. -/
import Derived.Test.YtcbhnjlbolafpabGreatDoorEvZJ
import Derived.Test.YtcbhnjlbolafpabGreatDoorEvK3
import Derived.WideShapes
set_option linter.unusedSimpArgs false
set_option linter.unusedVariables false
namespace Go.Ev
section
variable {P : Program}

def noHook : Hook := fun _ _ _ => none
theorem noHook_sound : HookS P noHook := fun h => by cases h
theorem noHook_nx : HookNx noHook := fun _ _ _ _ _ h => by cases h

/-- a state without blocks; k numbers are let go -/
def sN (k : Nat) : St := ⟨.nil HD, k⟩
def phiOf (Ls : List Loc) : Phi := fun b => Ls[b]?
theorem rhN {w : World} {Ls : List Loc} (h : ∀ l ∈ Ls, l.blk < w.heap.size) : Rh (phiOf Ls) (sN Ls.length) w :=
  ⟨fun b l x _ h2 => (by rw [show (sN Ls.length).get b = none from T.get_nil _ _] at h2; cases h2), fun b b' l l' x x' _ _ h2 => (by rw [show (sN Ls.length).get b = none from T.get_nil _ _] at h2; cases h2),
    fun b l h1 => h l (List.mem_of_getElem? h1), fun b _ => T.get_nil _ _⟩

def okB : Option (End × Option (List PE) × St) → Bool
  | some (.ret (.bool true), _, _) => true
  | _ => false
theorem okB_spec {x : Option (End × Option (List PE) × St)} (h : okB x = true) : ∃ rc s, x = some (.ret (.bool true), rc, s) := by
  unfold okB at h
  split at h
  · exact ⟨_, _, rfl⟩
  · cases h

theorem run_true {hook : Hook} (hN : NoCount P) (hH : HookS P hook) (hX : HookNx hook) (hM : P.follows .mixedOrders = true) {n : Nat} {f : FuncId} {fn : Func} {c : Code} (hf : P.funcs[f]? = some fn) (hb : fn.body = some c)
    {args : List V} {us : List Value} {Ls : List Loc} {w : World} (hL : ∀ l ∈ Ls, l.blk < w.heap.size) (ha : RvL (phiOf Ls) args us)
    (h : okB ((ev P hook n).call f args none (sN Ls.length)) = true) :
    Calls P f ⟨us⟩ w fun e w' => e = .returned (.bool true) ∧ RowKit.Below w.heap.size w w' := by
  obtain ⟨rc, s, h⟩ := okB_spec h
  have hs := ev_sound hN hH hX (fun hr hnx => draw_sound hM hr hnx) n
  have hd := hs.call h (rhN hL) ha (fun b h1 _ => by
    show Ls[b]? = none
    exact List.getElem?_eq_none h1)
  have hrun := callFunc_run hN hf hb ⟨us⟩ w
  have fin : ∀ e w', Post (phiOf Ls) (sN Ls.length) w s (.ret (.bool true)) e w' → e = .returned (.bool true) ∧ RowKit.Below w.heap.size w w' := by
    rintro e w' ⟨φ', h1, h2, h3⟩
    refine ⟨?_, h2.sm.1, h2.sm.2.1, h2.sm.2.2, h2.size, fun B hB => h2.frame B hB fun b _ _ _ h _ => by rw [show (sN Ls.length).get b = none from T.get_nil _ _] at h; cases h⟩
    cases e with
    | returned u' =>
      have h3 : Rv φ' (.bool true) u' := h3
      cases h3; rfl
    | panicked _ => exact h3.elim
    | outgrown => exact h3.elim
  rcases hd with ⟨u', w', h1, _⟩ | ⟨g, us, w1, h1, h2⟩
  · have h1 : (callFunc f ⟨us⟩).run P w = _ := h1
    rw [hrun] at h1; cases h1
  · have h1 : (callFunc f _).run P w = _ := h1
    rw [hrun] at h1
    cases h1
    exact h2.mono fin

/-! A function's code, piece by piece. -/
theorem codeF_seq {r : R} {ro : Option Nat} {x y : Code} {a : Act} {s : St} : codeF P r ro (.seq x y) a s = andThen (codeF P r ro x a s) (codeF P r ro y) := rfl
theorem andThen_norm {a : Act} {s : St} {k : Act → St → Res} : andThen (some (.norm, a, s)) k = k a s := rfl
theorem call_split {hook : Hook} {n : Nat} {f : FuncId} {fn : Func} {c : Code} {args : List V} {s : St} (hh : hook f args s = none) (hf : P.funcs[f]? = some fn) (hb : fn.body = some c) (hs : Nat.ble (slots fn args) TN = true) :
    (ev P hook (n + 1)).call f args none s = (codeF P (ev P hook n) none c ⟨listT args 0 (.nil TD), slots fn args, [], none⟩ s).bind (leaving (ev P hook n) f) := by
  show callF P hook (ev P hook n) f args none s = _
  unfold callF
  rw [hh]
  simp only [enterF, hf, hb, Option.bind_some, hs, cond_true]
theorem tail_K {hook : Hook} {n : Nat} {f : FuncId} {c : Code} {a : Act} {s : St} :
    (codeF P (ev P hook n) none c a s).bind (leaving (ev P hook n) f) = K.resC ((K.codeJ P c).run (K.evK P hook n) none (K.fin .norm) a s) fun e a s => K.leavingK (K.evK P hook n) f e a s := by
  rw [K.evK_ok, K.codeJ_ok, K.andThen_fin]
  cases codeF P (ev P hook n) none c a s with
  | none => rfl
  | some q => obtain ⟨e, a, s⟩ := q; exact (K.leavingK_ok _ f (e, a, s)).symm

/-- a slice that came in -/
theorem slice_form {w : World} {base : Nat} {t e : TypeId} {v : Value} (ht : P.underlying t = some (.slice e)) (h : Value.okWide P w .any base t v) :
    v = .slice none 0 0 ∨ ∃ g o len cap, v = .slice (some ⟨g, o, none⟩) len cap ∧ g < w.heap.size := by
  obtain ⟨a, len, cap, rfl⟩ := WideShapes.okWide_slice ht h
  simp only [Value.okWide, ht, Cell.okWide] at h
  cases a with
  | none =>
    left
    simp only [Cell.ok, ht] at h
    split at h <;> simp_all
  | some a =>
    right
    simp only [Cell.ok, ht] at h
    obtain ⟨_, _, _, h3, row, cells, h4, _⟩ := h
    obtain ⟨g, o, sp⟩ := a
    simp only at h3 h4; subst h3
    refine ⟨g, o, len, cap, rfl, ?_⟩
    unfold World.shape? at h4
    rcases Nat.lt_or_ge g w.heap.size with z | z
    · exact z
    · simp [Array.getElem?_eq_none z] at h4
end
end Go.Ev
