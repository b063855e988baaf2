import Derived.Test.YtcbhnjlbolafpabGreatDoorMa
namespace Go.Proofs.YtcbhnjlbolafpabGreatDoor
open Go.Ev
theorem closedA : HookS Tryz.prog (closedHook 17) := closedHook_sound (P := Tryz.prog) (hook := hookA) (f0 := 17) (n := 100000) noCount hookA_sound hookA_nx mixed awake_ok
def hookB : Hook := orHook (closedHook 17) hookA
theorem hookB_sound : HookS Tryz.prog hookB := orHook_sound closedA hookA_sound
theorem hookB_nx : HookNx hookB := orHook_nx (closedHook_nx _) hookA_nx
end Go.Proofs.YtcbhnjlbolafpabGreatDoor
