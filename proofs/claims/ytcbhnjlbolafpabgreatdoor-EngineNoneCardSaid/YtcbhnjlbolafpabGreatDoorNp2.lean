import Derived.Test.YtcbhnjlbolafpabGreatDoorNp1
namespace Go.Proofs.YtcbhnjlbolafpabGreatDoor
open Go.ChangeShapes Go.WideShapes Go.ChangeAt Go.RowKit Go.Ev
theorem nandI {a b : Bool} (ha : a = true) (hb : b = true) : (a && b) = true := by rw [ha, hb]; rfl
set_option maxHeartbeats 20000000 in
theorem nclosed : joinedFacts Tryz.pinned.checked.prog 4 Tryz.f4 Rows.engineNoneSpec Rows.engineNoneRow = true := by
  unfold joinedFacts
  repeat' with_reducible refine nandI ?_ ?_
  all_goals (as_aux_lemma => kernel_rfl)
theorem nwrap : Tryz.f4.isWrapper Tryz.pinned.checked.prog Rows.engineNoneRow.wrapper Rows.engineNoneRow.mainSum := by
  unfold Func.isWrapper; first | (rw [if_pos (by decide +kernel)]; kernel_rfl) | (rw [if_neg (by decide +kernel)]; exact ⟨rfl, rfl⟩)
theorem ninst : Tryz.f4.isInstance Tryz.pinned.checked.prog Rows.engineNoneRow.origin Rows.engineNoneRow.targs := of_decide_eq_true (by kernel_rfl)
theorem nnamed : Tryz.pinned.checked.prog.funcNamed Rows.engineNoneRow.func = some 4 := by kernel_rfl
theorem nsaid : Rows.EngineNoneSaid :=
  OpenClaim.holds_of_wide 4 Tryz.f4 rfl rfl rfl rfl rfl rfl rfl ⟨rfl, rfl, rfl, rfl, rfl⟩ rfl rfl rfl rfl rfl nnamed Tryz.func4 nclosed ninst nwrap
    (fun os started H enc _ => nlifted os started H enc)
end Go.Proofs.YtcbhnjlbolafpabGreatDoor
