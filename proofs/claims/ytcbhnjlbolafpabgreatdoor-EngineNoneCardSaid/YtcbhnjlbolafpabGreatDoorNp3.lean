import Derived.Test.YtcbhnjlbolafpabGreatDoorNp2
namespace Go.Proofs.YtcbhnjlbolafpabGreatDoor
open Go.ChangeShapes Go.WideShapes Go.ChangeAt Go.RowKit Go.Ev
theorem nplain (f : FuncId) (fn : Func) (hf : Tryz.pinned.checked.prog.funcNamed "retcon/retconlaw25.EngineNone" = some f) (hfn : Tryz.pinned.checked.prog.funcs[f]? = some fn) :
    true = Tryz.pinned.checked.prog.looks [] ∧ ∀ (j : Nat) t, fn.params[j]? = some t → Tryz.pinned.checked.prog.wantsStandIn t = false := by
  obtain rfl : f = 4 := Option.some.inj ((show Tryz.prog.funcNamed "retcon/retconlaw25.EngineNone" = some 4 by kernel_rfl).symm.trans hf) |>.symm
  obtain rfl : fn = Tryz.f4 := (Option.some.inj (Tryz.func4.symm.trans hfn)).symm
  refine ⟨by as_aux_lemma => kernel_rfl, fun j t ht => ?_⟩
  rw [Tryz.params4] at ht
  have hm := Array.mem_of_getElem? ht
  simp only [List.mem_toArray, List.mem_cons, List.not_mem_nil, or_false] at hm
  rcases hm with rfl | rfl
  · exact (show Tryz.prog.wantsStandIn 9 = false by kernel_rfl)
  · exact (show Tryz.prog.wantsStandIn 3 = false by kernel_rfl)

theorem goes_none {P : Program} (h : P.funcs.toList.all (fun fn => !fn.goes) = true) (c : OpenClaim) (hs : c.start = .entering) : false = c.goesBy P := by
  have h1 : ∀ g : Nat, (P.funcs[g]?).any Func.goes = false := by
    intro g
    cases hg : P.funcs[g]? with
    | none => rfl
    | some fn =>
      have := List.all_eq_true.1 h fn (Array.mem_toList_iff.2 (Array.mem_of_getElem? hg))
      simpa using this
  have h2 : P.funcs.any Func.goes = false := by
    rw [← Array.any_toList, List.any_eq_false]
    intro fn hfn
    have := List.all_eq_true.1 h fn hfn
    simpa using this
  have h3 : ∀ f, P.goes f = false := by
    intro f
    unfold Program.goes
    simp only [h1, h2, Bool.and_false, Bool.or_false]
    simp
  unfold OpenClaim.goesBy Program.goesAt Program.goesFrom
  rw [hs]
  cases P.funcNamed c.func with
  | none => rfl
  | some f => simp [h3]
theorem noGoes : Tryz.pinned.checked.prog.funcs.toList.all (fun fn => !fn.goes) = true := by kernel_rfl
theorem ngoes : false = Rows.engineNoneRow.goesBy Tryz.pinned.checked.prog := goes_none noGoes _ rfl
theorem engineNone_holds : Rows.EngineNoneCardSaid :=
  Claim7.holds_tied_plain_at .later [] _ _ _ _ nsaid (fun _ h => by cases h) (by as_aux_lemma => kernel_rfl) (fun _ h => by cases h) engineNone_row_tie rfl ⟨rfl, rfl⟩ (by as_aux_lemma => kernel_rfl) rfl nplain ngoes
#print axioms engineNone_holds
end Go.Proofs.YtcbhnjlbolafpabGreatDoor
