import Derived.Test.YtiicdlnphnhblaaGreatDoorEvZK
import Derived.Test.YtiicdlnphnhblaaGreatDoorProg
import Derived.KernelRfl
namespace Go.Proofs.YtiicdlnphnhblaaGreatDoor
open Go.Ev

def fstC : Code → Code
  | .seq x _ => x
  | c => c
def sndC : Code → Code
  | .seq _ y => y
  | c => c
def countOk (fn : Func) : Bool := fn.body.isNone || fn.name != "runtime.NumGoroutine"
theorem noCount : NoCount Tryz.prog := by
  have h : Tryz.prog.funcs.toList.all countOk = true := by kernel_rfl
  intro f fn hf hb he
  have := List.all_eq_true.1 h fn (Array.mem_toList_iff.2 (Array.mem_of_getElem? hf))
  simp only [countOk, Bool.or_eq_true, Option.isNone_iff_eq_none] at this
  rcases this with h | h
  · rw [h] at hb; cases hb
  · rw [he] at h; simp at h
theorem mixed : Tryz.prog.follows .mixedOrders = true := by kernel_rfl

noncomputable def body4 : Code := Tryz.f4.body.getD .skip
theorem body4_eq : Tryz.f4.body = some body4 := by kernel_rfl
noncomputable def R0 : Code := fstC body4
noncomputable def R1 : Code := fstC (fstC (sndC body4))
noncomputable def D : Code := sndC (fstC (sndC body4))
noncomputable def T : Code := sndC (sndC body4)
theorem body4_cut : body4 = .seq R0 (.seq (.seq R1 D) T) := by kernel_rfl
def raw (len cap : Nat) : V := .slice 0 0 len cap false
noncomputable def A0 (len cap : Nat) : Ev.Act := ⟨listT [raw len cap] 0 (.nil TD), slots Tryz.f4 [raw len cap], [], none⟩
noncomputable def A1 (len cap : Nat) : Ev.Act := (A0 len cap).put (some 2) (.bool false)
noncomputable def A2 (len cap : Nat) (c : Bool) : Ev.Act := (((A1 len cap).put (some 5) (raw len cap)).put (some 6) (.int .i64 (.ofNat len))).put (some 7) (.bool c)
theorem r0 (r : Ev.R) (len cap : Nat) : codeF Tryz.prog r none R0 (A0 len cap) (sN 1) = some (.norm, A1 len cap, sN 1) := by kernel_rfl
theorem r1 (r : Ev.R) (len cap : Nat) : codeF Tryz.prog r none R1 (A1 len cap) (sN 1) = some (.norm, A2 len cap (intLt (.ofNat 2000) (.ofNat len)), sN 1) := by kernel_rfl
theorem tail (len cap : Nat) : ∀ c, okB (K.resC ((K.codeJ Tryz.prog (.seq D T)).run (K.evK Tryz.prog noHook 100000) none (K.fin .norm) (A2 len cap c) (sN 1)) fun e a s => K.leavingK (K.evK Tryz.prog noHook 100000) 4 e a s) = true
  | true => by kernel_rfl
  | false => by kernel_rfl
theorem none_slice (len cap : Nat) : okB ((ev Tryz.prog noHook 100001).call 4 [raw len cap] none (sN 1)) = true := by
  rw [call_split rfl Tryz.func4 body4_eq (by kernel_rfl), body4_cut]
  have h : codeF Tryz.prog (ev Tryz.prog noHook 100000) none (.seq R0 (.seq (.seq R1 D) T)) (A0 len cap) (sN 1) = codeF Tryz.prog (ev Tryz.prog noHook 100000) none (.seq D T) (A2 len cap (intLt (.ofNat 2000) (.ofNat len))) (sN 1) := by
    rw [codeF_seq, r0, andThen_norm, codeF_seq, codeF_seq, r1, andThen_norm, codeF_seq]
  have h2 : (codeF Tryz.prog (ev Tryz.prog noHook 100000) none (.seq R0 (.seq (.seq R1 D) T)) ⟨listT [raw len cap] 0 (.nil TD), slots Tryz.f4 [raw len cap], [], none⟩ (sN 1)) = codeF Tryz.prog (ev Tryz.prog noHook 100000) none (.seq D T) (A2 len cap (intLt (.ofNat 2000) (.ofNat len))) (sN 1) := h
  rw [h2, tail_K]
  exact tail len cap _
theorem none_nil : okB ((ev Tryz.prog noHook 100001).call 4 [.nils] none (sN 0)) = true := by
  rw [← K.evK_ok]
  kernel_rfl
end Go.Proofs.YtiicdlnphnhblaaGreatDoor
