import Derived.Test.YtcbhnjlbolafpaaGreatDoorNp2
namespace Go.Proofs.YtcbhnjlbolafpaaGreatDoor
open Go.ChangeShapes Go.WideShapes Go.ChangeAt Go.RowKit Go.Ev
theorem nplain (f : FuncId) (fn : Func) (hf : Tryz.pinned.checked.prog.funcNamed "retcon/retconlaw28.PortNone" = some f) (hfn : Tryz.pinned.checked.prog.funcs[f]? = some fn) :
    true = Tryz.pinned.checked.prog.looks [] ∧ ∀ (j : Nat) t, fn.params[j]? = some t → Tryz.pinned.checked.prog.wantsStandIn t = false := by
  obtain rfl : f = 3 := Option.some.inj ((show Tryz.prog.funcNamed "retcon/retconlaw28.PortNone" = some 3 by kernel_rfl).symm.trans hf) |>.symm
  obtain rfl : fn = Tryz.f3 := (Option.some.inj (Tryz.func3.symm.trans hfn)).symm
  refine ⟨by kernel_rfl, fun j t ht => ?_⟩
  rw [Tryz.params3] at ht
  have hm := Array.mem_of_getElem? ht
  simp only [List.mem_toArray, List.mem_cons, List.not_mem_nil, or_false] at hm
  rcases hm with rfl | rfl | rfl
  · exact (show Tryz.prog.wantsStandIn 22 = false by kernel_rfl)
  · exact (show Tryz.prog.wantsStandIn 23 = false by kernel_rfl)
  · exact (show Tryz.prog.wantsStandIn 3 = false by kernel_rfl)

theorem portNone_holds : Rows.PortNoneCardSaid :=
  Claim7.holds_tied_plain_at .later [] _ _ _ _ nsaid (fun _ h => by cases h) (by kernel_rfl) (fun _ h => by cases h) portNone_row_tie rfl ⟨rfl, rfl⟩ (by kernel_rfl) rfl nplain (by kernel_rfl)
#print axioms portNone_holds
end Go.Proofs.YtcbhnjlbolafpaaGreatDoor
