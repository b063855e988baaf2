import Derived.Test.YtcbhnjlbolafpaaGreatDoorMm
namespace Go.Proofs.YtcbhnjlbolafpaaGreatDoor
open Go.Ev
theorem m0_ok : memOk Tryz.prog 100000 182 m0 = true := memOk_K (by kernel_rfl)
end Go.Proofs.YtcbhnjlbolafpaaGreatDoor
