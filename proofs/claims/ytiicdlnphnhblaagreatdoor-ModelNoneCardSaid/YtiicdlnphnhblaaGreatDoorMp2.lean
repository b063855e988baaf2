import Derived.Test.YtiicdlnphnhblaaGreatDoorMp1
namespace Go.Proofs.YtiicdlnphnhblaaGreatDoor
open Go.ChangeShapes Go.WideShapes Go.ChangeAt Go.RowKit Go.Ev
theorem andI {a b : Bool} (ha : a = true) (hb : b = true) : (a && b) = true := by rw [ha, hb]; rfl
set_option maxHeartbeats 20000000 in
theorem closed : joinedFacts Tryz.pinned.checked.prog 4 Tryz.f4 Rows.modelNoneSpec Rows.modelNoneRow = true := by
  unfold joinedFacts
  repeat' with_reducible refine andI ?_ ?_
  all_goals (as_aux_lemma => kernel_rfl)
theorem wrap4 : Tryz.f4.isWrapper Tryz.pinned.checked.prog Rows.modelNoneRow.wrapper Rows.modelNoneRow.mainSum := by
  unfold Func.isWrapper; first | (rw [if_pos (by decide +kernel)]; kernel_rfl) | (rw [if_neg (by decide +kernel)]; exact ⟨rfl, rfl⟩)
theorem inst4 : Tryz.f4.isInstance Tryz.pinned.checked.prog Rows.modelNoneRow.origin Rows.modelNoneRow.targs := of_decide_eq_true (by kernel_rfl)
theorem named4 : Tryz.pinned.checked.prog.funcNamed Rows.modelNoneRow.func = some 4 := by kernel_rfl
theorem said : Rows.ModelNoneSaid :=
  OpenClaim.holds_of_wide 4 Tryz.f4 rfl rfl rfl rfl rfl rfl rfl ⟨rfl, rfl, rfl, rfl, rfl⟩ rfl rfl rfl rfl rfl named4 Tryz.func4 closed inst4 wrap4
    (fun os started H enc _ => lifted os started H enc)
end Go.Proofs.YtiicdlnphnhblaaGreatDoor
