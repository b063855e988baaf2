import Derived.Test.YtcbhnjlbolafpabGreatDoorMb
namespace Go.Proofs.YtcbhnjlbolafpabGreatDoor
open Go.Ev
def fstC : Code → Code
  | .seq x _ => x
  | c => c
def sndC : Code → Code
  | .seq _ y => y
  | c => c
noncomputable def body4 : Code := Tryz.f4.body.getD .skip
theorem body4_eq : Tryz.f4.body = some body4 := by kernel_rfl
noncomputable def R0 : Code := fstC body4
noncomputable def R1 : Code := fstC (fstC (sndC body4))
noncomputable def D : Code := sndC (fstC (sndC body4))
noncomputable def T : Code := sndC (sndC body4)
theorem body4_cut : body4 = .seq R0 (.seq (.seq R1 D) T) := by kernel_rfl
noncomputable def A0 (x : V) (p : Int) : Ev.Act := ⟨listT [x, .int .i64 p] 0 (.nil TD), slots Tryz.f4 [x, .int .i64 p], [], none⟩
noncomputable def A1 (x : V) (p : Int) : Ev.Act := (A0 x p).put (some 4) (.bool false)
noncomputable def A2 (x : V) (p n : Int) (c : Bool) : Ev.Act := (((A1 x p).put (some 22) x).put (some 23) (.int .i64 n)).put (some 24) (.bool c)
noncomputable def tailB (a : Ev.Act) (k : Nat) : Bool := okB (K.resC ((K.codeJ Tryz.prog (.seq D T)).run (K.evK Tryz.prog hookB 100000) none (K.fin .norm) a (sN k)) fun e a s => K.leavingK (K.evK Tryz.prog hookB 100000) 4 e a s)
theorem join {x : V} {p : Int} {k : Nat} {a : Ev.Act} (hs : Nat.ble (slots Tryz.f4 [x, .int .i64 p]) TN = true) (hh : hookB 4 [x, .int .i64 p] (sN k) = none)
    (h0 : codeF Tryz.prog (ev Tryz.prog hookB 100000) none R0 (A0 x p) (sN k) = some (.norm, A1 x p, sN k))
    (h1 : codeF Tryz.prog (ev Tryz.prog hookB 100000) none R1 (A1 x p) (sN k) = some (.norm, a, sN k)) (ht : tailB a k = true) :
    okB ((ev Tryz.prog hookB 100001).call 4 [x, .int .i64 p] none (sN k)) = true := by
  rw [call_split hh Tryz.func4 body4_eq hs, body4_cut]
  have h : codeF Tryz.prog (ev Tryz.prog hookB 100000) none (.seq R0 (.seq (.seq R1 D) T)) (A0 x p) (sN k) = codeF Tryz.prog (ev Tryz.prog hookB 100000) none (.seq D T) a (sN k) := by
    rw [codeF_seq, h0, andThen_norm, codeF_seq, codeF_seq, h1, andThen_norm, codeF_seq]
  have h2 : (codeF Tryz.prog (ev Tryz.prog hookB 100000) none (.seq R0 (.seq (.seq R1 D) T)) ⟨listT [x, .int .i64 p] 0 (.nil TD), slots Tryz.f4 [x, .int .i64 p], [], none⟩ (sN k)) = codeF Tryz.prog (ev Tryz.prog hookB 100000) none (.seq D T) a (sN k) := h
  rw [h2, tail_K]
  exact ht
theorem r0 (r : Ev.R) (s : List UInt8) (p : Int) : codeF Tryz.prog r none R0 (A0 (.str s) p) (sN 0) = some (.norm, A1 (.str s) p, sN 0) := by kernel_rfl
theorem r1 (r : Ev.R) (s : List UInt8) (p : Int) : codeF Tryz.prog r none R1 (A1 (.str s) p) (sN 0) = some (.norm, A2 (.str s) p (.ofNat s.length) (intLt (.ofNat 100) (.ofNat s.length)), sN 0) := by kernel_rfl
theorem tt (s : List UInt8) (p : Int) : ∀ c, true = tailB (A2 (.str s) p (.ofNat s.length) c) 0
  | true => by kernel_rfl
  | false => by kernel_rfl
theorem none_ok (s : List UInt8) (p : Int) : okB ((ev Tryz.prog hookB 100001).call 4 [.str s, .int .i64 p] none (sN 0)) = true :=
  join (by kernel_rfl) (by kernel_rfl) (r0 _ s p) (r1 _ s p) (tt s p _).symm
end Go.Proofs.YtcbhnjlbolafpabGreatDoor
