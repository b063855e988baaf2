import Derived.Test.YtcbhnjlbolafpaaGreatDoorMm
namespace Go.Proofs.YtcbhnjlbolafpaaGreatDoor
open Go.Ev
theorem m3_ok : memOk Tryz.prog 100000 182 m3 = true := memOk_K (by kernel_rfl)
end Go.Proofs.YtcbhnjlbolafpaaGreatDoor
