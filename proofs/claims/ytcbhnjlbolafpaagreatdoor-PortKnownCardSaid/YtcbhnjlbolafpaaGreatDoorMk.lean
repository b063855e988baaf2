import Derived.Test.YtcbhnjlbolafpaaGreatDoorMb
namespace Go.Proofs.YtcbhnjlbolafpaaGreatDoor
open Go.Ev
theorem known_K : true = okB ((K.evK Tryz.prog hookB 100000).call 4 [] none (sN 0)) := by kernel_rfl
theorem known_ok : okB ((ev Tryz.prog hookB 100000).call 4 [] none (sN 0)) = true := by
  rw [← K.evK_ok]; exact known_K.symm
end Go.Proofs.YtcbhnjlbolafpaaGreatDoor
