import Derived.Test.YtcbhnjlbolafpaaGreatDoorKp1
namespace Go.Proofs.YtcbhnjlbolafpaaGreatDoor
open Go.ChangeShapes Go.WideShapes Go.ChangeAt Go.RowKit Go.Ev
theorem kandI {a b : Bool} (ha : a = true) (hb : b = true) : (a && b) = true := by rw [ha, hb]; rfl
set_option maxHeartbeats 20000000 in
theorem kclosed : joinedFacts Tryz.pinned.checked.prog 4 Tryz.f4 Rows.portKnownSpec Rows.portKnownRow = true := by
  unfold joinedFacts
  repeat' with_reducible refine kandI ?_ ?_
  all_goals (as_aux_lemma => kernel_rfl)
theorem kwrap : Tryz.f4.isWrapper Tryz.pinned.checked.prog Rows.portKnownRow.wrapper Rows.portKnownRow.mainSum := by
  unfold Func.isWrapper; first | (rw [if_pos (by decide +kernel)]; kernel_rfl) | (rw [if_neg (by decide +kernel)]; exact ⟨rfl, rfl⟩)
theorem kinst : Tryz.f4.isInstance Tryz.pinned.checked.prog Rows.portKnownRow.origin Rows.portKnownRow.targs := of_decide_eq_true (by kernel_rfl)
theorem knamed : Tryz.pinned.checked.prog.funcNamed Rows.portKnownRow.func = some 4 := by kernel_rfl
theorem ksaid : Rows.PortKnownSaid :=
  OpenClaim.holds_of_wide 4 Tryz.f4 rfl rfl rfl rfl rfl rfl rfl ⟨rfl, rfl, rfl, rfl, rfl⟩ rfl rfl rfl rfl rfl knamed Tryz.func4 kclosed kinst kwrap
    (fun os started H enc _ => klifted os started H enc)
end Go.Proofs.YtcbhnjlbolafpaaGreatDoor
