import Derived.Test.YtcbhnjlbolafpaaGreatDoorKp2
namespace Go.Proofs.YtcbhnjlbolafpaaGreatDoor
open Go.ChangeShapes Go.WideShapes Go.ChangeAt Go.RowKit Go.Ev
theorem kplain (f : FuncId) (fn : Func) (hf : Tryz.pinned.checked.prog.funcNamed "retcon/retconlaw28.PortKnown" = some f) (hfn : Tryz.pinned.checked.prog.funcs[f]? = some fn) :
    true = Tryz.pinned.checked.prog.looks [] ∧ ∀ (j : Nat) t, fn.params[j]? = some t → Tryz.pinned.checked.prog.wantsStandIn t = false := by
  obtain rfl : f = 4 := Option.some.inj ((show Tryz.prog.funcNamed "retcon/retconlaw28.PortKnown" = some 4 by kernel_rfl).symm.trans hf) |>.symm
  obtain rfl : fn = Tryz.f4 := (Option.some.inj (Tryz.func4.symm.trans hfn)).symm
  refine ⟨by kernel_rfl, fun j t ht => ?_⟩
  rw [show Tryz.f4.params = #[] by kernel_rfl] at ht
  cases ht

theorem portKnown_holds : Rows.PortKnownCardSaid :=
  Claim7.holds_tied_plain_at .later [] _ _ _ _ ksaid (fun _ h => by cases h) (by kernel_rfl) (fun _ h => by cases h) portKnown_row_tie rfl ⟨rfl, rfl⟩ (by kernel_rfl) rfl kplain (by kernel_rfl)
#print axioms portKnown_holds
end Go.Proofs.YtcbhnjlbolafpaaGreatDoor
