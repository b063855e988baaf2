import Derived.Test.YtcbhnjlbolafpabGreatDoorMm0
import Derived.Test.YtcbhnjlbolafpabGreatDoorMm1
import Derived.Test.YtcbhnjlbolafpabGreatDoorMm2
import Derived.Test.YtcbhnjlbolafpabGreatDoorMm3
import Derived.Test.YtcbhnjlbolafpabGreatDoorMm4
namespace Go.Proofs.YtcbhnjlbolafpabGreatDoor
open Go.Ev
def countOk (fn : Func) : Bool := fn.body.isNone || fn.name != "runtime.NumGoroutine"
theorem noCount : NoCount Tryz.prog := by
  have h : Tryz.prog.funcs.toList.all countOk = true := by kernel_rfl
  intro f fn hf hb he
  have := List.all_eq_true.1 h fn (Array.mem_toList_iff.2 (Array.mem_of_getElem? hf))
  simp only [countOk, Bool.or_eq_true, Option.isNone_iff_eq_none] at this
  rcases this with h | h
  · rw [h] at hb; cases hb
  · rw [he] at h; simp at h
theorem mixed : Tryz.prog.follows .mixedOrders = true := by kernel_rfl
def hookA : Hook := orHook (memHook 287 tab) (cmpHook 389)
theorem tab_ok : ∀ m ∈ tab, memOk Tryz.prog 100000 287 m = true := by
  simp only [tab, List.forall_mem_cons]
  exact ⟨m0_ok, m1_ok, m2_ok, m3_ok, m4_ok, fun _ h => by cases h⟩
theorem hookA_sound : HookS Tryz.prog hookA := orHook_sound (memHook_sound noCount mixed tab_ok)
  (cmpHook_sound Tryz.func389 (by kernel_rfl) (by kernel_rfl) (by kernel_rfl) (by first | rfl | kernel_rfl))
theorem hookA_nx : HookNx hookA := orHook_nx (memHook_nx _ _) (cmpHook_nx _)
theorem awake_K : true = okB ((K.evK Tryz.prog hookA 100000).call 17 [] none (sN 0)) := by kernel_rfl
theorem awake_ok : okB ((ev Tryz.prog hookA 100000).call 17 [] none (sN 0)) = true := by
  rw [← K.evK_ok]; exact awake_K.symm
end Go.Proofs.YtcbhnjlbolafpabGreatDoor
