import Derived.Test.YtcbhnjlbolafpaaGreatDoorMm
namespace Go.Proofs.YtcbhnjlbolafpaaGreatDoor
open Go.Ev
theorem m1_ok : memOk Tryz.prog 100000 182 m1 = true := memOk_K (by kernel_rfl)
end Go.Proofs.YtcbhnjlbolafpaaGreatDoor
