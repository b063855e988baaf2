import Derived.Test.YtcbhnjlbolafpabGreatDoorMm
namespace Go.Proofs.YtcbhnjlbolafpabGreatDoor
open Go.Ev
theorem m4_ok : memOk Tryz.prog 100000 287 m4 = true := memOk_K (by kernel_rfl)
end Go.Proofs.YtcbhnjlbolafpabGreatDoor
