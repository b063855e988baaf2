import Derived.Test.YtcbhnjlbolafpabGreatDoorMm
namespace Go.Proofs.YtcbhnjlbolafpabGreatDoor
open Go.Ev
theorem m3_ok : memOk Tryz.prog 100000 287 m3 = true := memOk_K (by kernel_rfl)
end Go.Proofs.YtcbhnjlbolafpabGreatDoor
