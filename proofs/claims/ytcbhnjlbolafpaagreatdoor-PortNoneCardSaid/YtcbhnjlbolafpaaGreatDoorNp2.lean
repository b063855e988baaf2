import Derived.Test.YtcbhnjlbolafpaaGreatDoorNp1
namespace Go.Proofs.YtcbhnjlbolafpaaGreatDoor
open Go.ChangeShapes Go.WideShapes Go.ChangeAt Go.RowKit Go.Ev
theorem nandI {a b : Bool} (ha : a = true) (hb : b = true) : (a && b) = true := by rw [ha, hb]; rfl
set_option maxHeartbeats 20000000 in
theorem nclosed : joinedFacts Tryz.pinned.checked.prog 3 Tryz.f3 Rows.portNoneSpec Rows.portNoneRow = true := by
  unfold joinedFacts
  repeat' with_reducible refine nandI ?_ ?_
  all_goals (as_aux_lemma => kernel_rfl)
theorem nwrap : Tryz.f3.isWrapper Tryz.pinned.checked.prog Rows.portNoneRow.wrapper Rows.portNoneRow.mainSum := by
  unfold Func.isWrapper; first | (rw [if_pos (by decide +kernel)]; kernel_rfl) | (rw [if_neg (by decide +kernel)]; exact ⟨rfl, rfl⟩)
theorem ninst : Tryz.f3.isInstance Tryz.pinned.checked.prog Rows.portNoneRow.origin Rows.portNoneRow.targs := of_decide_eq_true (by kernel_rfl)
theorem nnamed : Tryz.pinned.checked.prog.funcNamed Rows.portNoneRow.func = some 3 := by kernel_rfl
theorem nsaid : Rows.PortNoneSaid :=
  OpenClaim.holds_of_wide 3 Tryz.f3 rfl rfl rfl rfl rfl rfl rfl ⟨rfl, rfl, rfl, rfl, rfl⟩ rfl rfl rfl rfl rfl nnamed Tryz.func3 nclosed ninst nwrap
    (fun os started H enc _ => nlifted os started H enc)
end Go.Proofs.YtcbhnjlbolafpaaGreatDoor
