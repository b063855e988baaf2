import Derived.Test.YtcbhnjlbolafpaaGreatDoorMb
namespace Go.Proofs.YtcbhnjlbolafpaaGreatDoor
open Go.Ev
def fstC : Code → Code
  | .seq x _ => x
  | c => c
def sndC : Code → Code
  | .seq _ y => y
  | c => c
def opsC : Code → List Oper
  | .region _ o _ => o.toList
  | _ => []
noncomputable def body3 : Code := Tryz.f3.body.getD .skip
theorem body3_eq : Tryz.f3.body = some body3 := by kernel_rfl
noncomputable def R0 : Code := fstC body3
noncomputable def R1 : Code := fstC (fstC (sndC body3))
noncomputable def D : Code := sndC (fstC (sndC body3))
noncomputable def T : Code := sndC (sndC body3)
noncomputable def O : List Oper := opsC R1
noncomputable def O1 : List Oper := O.take 4
noncomputable def O2 : List Oper := O.drop 4
theorem body3_cut : body3 = .seq R0 (.seq (.seq R1 D) T) := by kernel_rfl
theorem O_cut : O = O1 ++ O2 := by kernel_rfl
theorem R1_ops (r : Ev.R) (a : Ev.Act) (s : St) : codeF Tryz.prog r none R1 a s = opsF Tryz.prog r none O O a s := by kernel_rfl
def raw (k len cap : Nat) : V := .slice k 0 len cap false
noncomputable def A0 (x y : V) (p : Int) : Ev.Act := ⟨listT [x, y, .int .i64 p] 0 (.nil TD), slots Tryz.f3 [x, y, .int .i64 p], [], none⟩
noncomputable def A1 (x y : V) (p : Int) : Ev.Act := (A0 x y p).put (some 6) (.bool false)
noncomputable def A2 (x y : V) (p n : Int) (c : Bool) : Ev.Act := ((((A1 x y p).put (some 14) x).put (some 15) (.int .i64 n)).put (some 16) (.bool c)).put (some 17) (.bool c)
noncomputable def A3 (x y : V) (p n m : Int) (c : Bool) : Ev.Act := ((((A2 x y p n false).put (some 18) y).put (some 19) (.int .i64 m)).put (some 20) (.bool c)).put (some 21) (.bool c)
noncomputable def A4 (x y : V) (p n : Int) : Ev.Act := ((((A2 x y p n true).put (some 18) Ev.undef).put (some 19) Ev.undef).put (some 20) Ev.undef).put (some 21) (.bool true)
noncomputable def tailB (a : Ev.Act) (k : Nat) : Bool := okB (K.resC ((K.codeJ Tryz.prog (.seq D T)).run (K.evK Tryz.prog hookB 100000) none (K.fin .norm) a (sN k)) fun e a s => K.leavingK (K.evK Tryz.prog hookB 100000) 3 e a s)
theorem join {x y : V} {p : Int} {k : Nat} {a : Ev.Act} (hs : Nat.ble (slots Tryz.f3 [x, y, .int .i64 p]) TN = true) (hh : hookB 3 [x, y, .int .i64 p] (sN k) = none)
    (h0 : codeF Tryz.prog (ev Tryz.prog hookB 100000) none R0 (A0 x y p) (sN k) = some (.norm, A1 x y p, sN k))
    (h1 : opsF Tryz.prog (ev Tryz.prog hookB 100000) none O O (A1 x y p) (sN k) = some (.norm, a, sN k)) (ht : tailB a k = true) :
    okB ((ev Tryz.prog hookB 100001).call 3 [x, y, .int .i64 p] none (sN k)) = true := by
  rw [call_split hh Tryz.func3 body3_eq hs, body3_cut]
  have h : codeF Tryz.prog (ev Tryz.prog hookB 100000) none (.seq R0 (.seq (.seq R1 D) T)) (A0 x y p) (sN k) = codeF Tryz.prog (ev Tryz.prog hookB 100000) none (.seq D T) a (sN k) := by
    rw [codeF_seq, h0, andThen_norm, codeF_seq, codeF_seq, R1_ops, h1, andThen_norm, codeF_seq]
  have h2 : (codeF Tryz.prog (ev Tryz.prog hookB 100000) none (.seq R0 (.seq (.seq R1 D) T)) ⟨listT [x, y, .int .i64 p] 0 (.nil TD), slots Tryz.f3 [x, y, .int .i64 p], [], none⟩ (sN k)) = codeF Tryz.prog (ev Tryz.prog hookB 100000) none (.seq D T) a (sN k) := h
  rw [h2, tail_K]
  exact ht
theorem ops2 {r : Ev.R} {a b d : Ev.Act} {s : St} (h1 : opsF Tryz.prog r none O O1 a s = some (.norm, b, s)) (h2 : opsF Tryz.prog r none O O2 b s = some (.norm, d, s)) : opsF Tryz.prog r none O O a s = some (.norm, d, s) := by
  have : opsF Tryz.prog r none O O a s = opsF Tryz.prog r none O (O1 ++ O2) a s := by rw [← O_cut]
  rw [this, opsF_append, h1, andThen_norm, h2]
theorem r0_nn (r : Ev.R)  (p : Int) : codeF Tryz.prog r none R0 (A0 .nils .nils p) (sN 0) = some (.norm, A1 .nils .nils p, (sN 0)) := by kernel_rfl
theorem r1_nn (r : Ev.R)  (p : Int) : opsF Tryz.prog r none O O1 (A1 .nils .nils p) (sN 0) = some (.norm, A2 .nils .nils p (.ofNat 0) (intLt (.ofNat 30) (.ofNat 0)), (sN 0)) := by kernel_rfl
theorem r2_nn (r : Ev.R)  (p : Int) : opsF Tryz.prog r none O O2 (A2 .nils .nils p (.ofNat 0) false) (sN 0) = some (.norm, A3 .nils .nils p (.ofNat 0) (.ofNat 0) (intLt (.ofNat 2000) (.ofNat 0)), (sN 0)) := by kernel_rfl
theorem r3_nn (r : Ev.R)  (p : Int) : opsF Tryz.prog r none O O2 (A2 .nils .nils p (.ofNat 0) true) (sN 0) = some (.norm, A4 .nils .nils p (.ofNat 0), (sN 0)) := by kernel_rfl
theorem t3_nn  (p : Int) : ∀ c, tailB (A3 .nils .nils p (.ofNat 0) (.ofNat 0) c) 0 = true
  | true => by kernel_rfl
  | false => by kernel_rfl
theorem t4_nn  (p : Int) : tailB (A4 .nils .nils p (.ofNat 0)) 0 = true := by kernel_rfl
theorem none_nn  (p : Int) : okB ((ev Tryz.prog hookB 100001).call 3 [.nils, .nils, .int .i64 p] none (sN 0)) = true := by
  have h1 := r1_nn (ev Tryz.prog hookB 100000) p
  cases hc : intLt (.ofNat 30) (.ofNat 0) with
  | true =>
    rw [hc] at h1
    exact join (by kernel_rfl) (by kernel_rfl) (r0_nn _ p) (ops2 h1 (r3_nn _ p)) (t4_nn p)
  | false =>
    rw [hc] at h1
    exact join (by kernel_rfl) (by kernel_rfl) (r0_nn _ p) (ops2 h1 (r2_nn _ p)) (t3_nn p _)
theorem r0_sn (r : Ev.R) (l e : Nat) (p : Int) : codeF Tryz.prog r none R0 (A0 (raw 0 l e) .nils p) (sN 1) = some (.norm, A1 (raw 0 l e) .nils p, (sN 1)) := by kernel_rfl
theorem r1_sn (r : Ev.R) (l e : Nat) (p : Int) : opsF Tryz.prog r none O O1 (A1 (raw 0 l e) .nils p) (sN 1) = some (.norm, A2 (raw 0 l e) .nils p (.ofNat l) (intLt (.ofNat 30) (.ofNat l)), (sN 1)) := by kernel_rfl
theorem r2_sn (r : Ev.R) (l e : Nat) (p : Int) : opsF Tryz.prog r none O O2 (A2 (raw 0 l e) .nils p (.ofNat l) false) (sN 1) = some (.norm, A3 (raw 0 l e) .nils p (.ofNat l) (.ofNat 0) (intLt (.ofNat 2000) (.ofNat 0)), (sN 1)) := by kernel_rfl
theorem r3_sn (r : Ev.R) (l e : Nat) (p : Int) : opsF Tryz.prog r none O O2 (A2 (raw 0 l e) .nils p (.ofNat l) true) (sN 1) = some (.norm, A4 (raw 0 l e) .nils p (.ofNat l), (sN 1)) := by kernel_rfl
theorem t3_sn (l e : Nat) (p : Int) : ∀ c, tailB (A3 (raw 0 l e) .nils p (.ofNat l) (.ofNat 0) c) 1 = true
  | true => by kernel_rfl
  | false => by kernel_rfl
theorem t4_sn (l e : Nat) (p : Int) : tailB (A4 (raw 0 l e) .nils p (.ofNat l)) 1 = true := by kernel_rfl
theorem none_sn (l e : Nat) (p : Int) : okB ((ev Tryz.prog hookB 100001).call 3 [raw 0 l e, .nils, .int .i64 p] none (sN 1)) = true := by
  have h1 := r1_sn (ev Tryz.prog hookB 100000) l e p
  cases hc : intLt (.ofNat 30) (.ofNat l) with
  | true =>
    rw [hc] at h1
    exact join (by kernel_rfl) (by kernel_rfl) (r0_sn _ l e p) (ops2 h1 (r3_sn _ l e p)) (t4_sn l e p)
  | false =>
    rw [hc] at h1
    exact join (by kernel_rfl) (by kernel_rfl) (r0_sn _ l e p) (ops2 h1 (r2_sn _ l e p)) (t3_sn l e p _)
theorem r0_ns (r : Ev.R) (l e : Nat) (p : Int) : codeF Tryz.prog r none R0 (A0 .nils (raw 0 l e) p) (sN 1) = some (.norm, A1 .nils (raw 0 l e) p, (sN 1)) := by kernel_rfl
theorem r1_ns (r : Ev.R) (l e : Nat) (p : Int) : opsF Tryz.prog r none O O1 (A1 .nils (raw 0 l e) p) (sN 1) = some (.norm, A2 .nils (raw 0 l e) p (.ofNat 0) (intLt (.ofNat 30) (.ofNat 0)), (sN 1)) := by kernel_rfl
theorem r2_ns (r : Ev.R) (l e : Nat) (p : Int) : opsF Tryz.prog r none O O2 (A2 .nils (raw 0 l e) p (.ofNat 0) false) (sN 1) = some (.norm, A3 .nils (raw 0 l e) p (.ofNat 0) (.ofNat l) (intLt (.ofNat 2000) (.ofNat l)), (sN 1)) := by kernel_rfl
theorem r3_ns (r : Ev.R) (l e : Nat) (p : Int) : opsF Tryz.prog r none O O2 (A2 .nils (raw 0 l e) p (.ofNat 0) true) (sN 1) = some (.norm, A4 .nils (raw 0 l e) p (.ofNat 0), (sN 1)) := by kernel_rfl
theorem t3_ns (l e : Nat) (p : Int) : ∀ c, tailB (A3 .nils (raw 0 l e) p (.ofNat 0) (.ofNat l) c) 1 = true
  | true => by kernel_rfl
  | false => by kernel_rfl
theorem t4_ns (l e : Nat) (p : Int) : tailB (A4 .nils (raw 0 l e) p (.ofNat 0)) 1 = true := by kernel_rfl
theorem none_ns (l e : Nat) (p : Int) : okB ((ev Tryz.prog hookB 100001).call 3 [.nils, raw 0 l e, .int .i64 p] none (sN 1)) = true := by
  have h1 := r1_ns (ev Tryz.prog hookB 100000) l e p
  cases hc : intLt (.ofNat 30) (.ofNat 0) with
  | true =>
    rw [hc] at h1
    exact join (by kernel_rfl) (by kernel_rfl) (r0_ns _ l e p) (ops2 h1 (r3_ns _ l e p)) (t4_ns l e p)
  | false =>
    rw [hc] at h1
    exact join (by kernel_rfl) (by kernel_rfl) (r0_ns _ l e p) (ops2 h1 (r2_ns _ l e p)) (t3_ns l e p _)
theorem r0_ss (r : Ev.R) (l e m f : Nat) (p : Int) : codeF Tryz.prog r none R0 (A0 (raw 0 l e) (raw 1 m f) p) (sN 2) = some (.norm, A1 (raw 0 l e) (raw 1 m f) p, (sN 2)) := by kernel_rfl
theorem r1_ss (r : Ev.R) (l e m f : Nat) (p : Int) : opsF Tryz.prog r none O O1 (A1 (raw 0 l e) (raw 1 m f) p) (sN 2) = some (.norm, A2 (raw 0 l e) (raw 1 m f) p (.ofNat l) (intLt (.ofNat 30) (.ofNat l)), (sN 2)) := by kernel_rfl
theorem r2_ss (r : Ev.R) (l e m f : Nat) (p : Int) : opsF Tryz.prog r none O O2 (A2 (raw 0 l e) (raw 1 m f) p (.ofNat l) false) (sN 2) = some (.norm, A3 (raw 0 l e) (raw 1 m f) p (.ofNat l) (.ofNat m) (intLt (.ofNat 2000) (.ofNat m)), (sN 2)) := by kernel_rfl
theorem r3_ss (r : Ev.R) (l e m f : Nat) (p : Int) : opsF Tryz.prog r none O O2 (A2 (raw 0 l e) (raw 1 m f) p (.ofNat l) true) (sN 2) = some (.norm, A4 (raw 0 l e) (raw 1 m f) p (.ofNat l), (sN 2)) := by kernel_rfl
theorem t3_ss (l e m f : Nat) (p : Int) : ∀ c, tailB (A3 (raw 0 l e) (raw 1 m f) p (.ofNat l) (.ofNat m) c) 2 = true
  | true => by kernel_rfl
  | false => by kernel_rfl
theorem t4_ss (l e m f : Nat) (p : Int) : tailB (A4 (raw 0 l e) (raw 1 m f) p (.ofNat l)) 2 = true := by kernel_rfl
theorem none_ss (l e m f : Nat) (p : Int) : okB ((ev Tryz.prog hookB 100001).call 3 [raw 0 l e, raw 1 m f, .int .i64 p] none (sN 2)) = true := by
  have h1 := r1_ss (ev Tryz.prog hookB 100000) l e m f p
  cases hc : intLt (.ofNat 30) (.ofNat l) with
  | true =>
    rw [hc] at h1
    exact join (by kernel_rfl) (by kernel_rfl) (r0_ss _ l e m f p) (ops2 h1 (r3_ss _ l e m f p)) (t4_ss l e m f p)
  | false =>
    rw [hc] at h1
    exact join (by kernel_rfl) (by kernel_rfl) (r0_ss _ l e m f p) (ops2 h1 (r2_ss _ l e m f p)) (t3_ss l e m f p _)
end Go.Proofs.YtcbhnjlbolafpaaGreatDoor
