import Derived.Test.YtcbhnjlbolafpabGreatDoorMm
namespace Go.Proofs.YtcbhnjlbolafpabGreatDoor
open Go.Ev
theorem m2_ok : memOk Tryz.prog 100000 287 m2 = true := memOk_K (by kernel_rfl)
end Go.Proofs.YtcbhnjlbolafpabGreatDoor
