import Derived.Test.YtcbhnjlbolafpaaGreatDoorMa
namespace Go.Proofs.YtcbhnjlbolafpaaGreatDoor
open Go.Ev
theorem closed5 : HookS Tryz.prog (closedHook 5) := closedHook_sound (P := Tryz.prog) (hook := hookA) (f0 := 5) (n := 100000) noCount hookA_sound hookA_nx mixed awake_ok
def hookB : Hook := orHook (closedHook 5) hookA
theorem hookB_sound : HookS Tryz.prog hookB := orHook_sound closed5 hookA_sound
theorem hookB_nx : HookNx hookB := orHook_nx (closedHook_nx _) hookA_nx
end Go.Proofs.YtcbhnjlbolafpaaGreatDoor
