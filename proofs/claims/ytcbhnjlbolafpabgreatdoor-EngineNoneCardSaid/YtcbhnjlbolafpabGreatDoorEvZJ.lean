/- A closed run: what the evaluator answers from nothing, the machine answers in every world, and leaves what was there as it was. -/
import Derived.Test.YtcbhnjlbolafpabGreatDoorEvZI
import Derived.Below
set_option linter.unusedSimpArgs false
set_option linter.unusedVariables false
namespace Go.Ev
section
variable {P : Program}

def st0 : St := ⟨.nil HD, 0⟩
theorem rh0 (w : World) : Rh (fun _ => none) st0 w :=
  ⟨fun _ _ _ h => (by cases h), fun _ _ _ _ _ _ h => (by cases h), fun _ _ h => (by cases h), fun b _ => T.get_nil _ _⟩

/-- basic answers -/
def flat : V → Option Value
  | .bool b => some (.bool b)
  | .int k n => some (.int k n)
  | _ => none
theorem flat_sound {φ : Phi} {v : V} {u u' : Value} (h : Rv φ v u) (hf : flat v = some u') : u = u' := by
  cases h <;> simp only [flat] at hf <;> first | (cases hf; rfl) | (cases hf)

theorem run_closed {hook : Hook} (hN : NoCount P) (hH : HookS P hook) (hX : HookNx hook) (hM : P.follows .mixedOrders = true) {n : Nat} {f : FuncId} {fn : Func} {c : Code} (hf : P.funcs[f]? = some fn) (hb : fn.body = some c)
    {v : V} {u : Value} {rc : Option (List PE)} {s : St} (h : (ev P hook n).call f [] none st0 = some (.ret v, rc, s)) (hv : flat v = some u) (w : World) :
    Calls P f #[] w fun e w' => e = .returned u ∧ RowKit.Below w.heap.size w w' := by
  have hs := ev_sound hN hH hX (fun hr hnx => draw_sound hM hr hnx) n
  have hd := hs.call h (rh0 w) .nil (fun _ _ _ => rfl)
  have hrun := callFunc_run hN hf hb #[] w
  have fin : ∀ e w', Post (fun _ => none) st0 w s (.ret v) e w' → e = .returned u ∧ RowKit.Below w.heap.size w w' := by
    rintro e w' ⟨φ', h1, h2, h3⟩
    refine ⟨?_, h2.sm.1, h2.sm.2.1, h2.sm.2.2, h2.size, fun B hB => h2.frame B hB fun _ _ _ h => by cases h⟩
    cases e with
    | returned u' => rw [flat_sound h3 hv]
    | panicked _ => exact h3.elim
    | outgrown => exact h3.elim
  rcases hd with ⟨u', w', h1, _⟩ | ⟨g, us, w1, h1, h2⟩
  · have h1 : (callFunc f #[]).run P w = _ := h1
    rw [hrun] at h1; cases h1
  · have h1 : (callFunc f #[]).run P w = _ := h1
    rw [hrun] at h1
    cases h1
    exact h2.mono fin
end
end Go.Ev
