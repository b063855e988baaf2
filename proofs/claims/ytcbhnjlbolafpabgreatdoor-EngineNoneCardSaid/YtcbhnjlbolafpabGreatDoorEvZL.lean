/- Hooks: comparing strings; runs that are known. -/
import Derived.Test.YtcbhnjlbolafpabGreatDoorEvZK
import Derived.Lib.Bytealg
import Derived.Laws.Externs
set_option linter.unusedSimpArgs false
set_option linter.unusedVariables false
namespace Go.Ev
section
variable {P : Program}

def orHook (h h' : Hook) : Hook := fun f args s => match h f args s with
  | some r => some r
  | none => h' f args s
theorem orHook_sound {h h' : Hook} (H : HookS P h) (H' : HookS P h') : HookS P (orHook h h') := by
  intro f args s v s' hx
  unfold orHook at hx
  split at hx
  · rename_i r hr
    cases hx
    exact H hr
  · exact H' hx
theorem orHook_nx {h h' : Hook} (H : HookNx h) (H' : HookNx h') : HookNx (orHook h h') := by
  intro f args s v s' hx
  unfold orHook at hx
  split at hx
  · rename_i r hr
    cases hx
    exact H _ _ _ _ _ hr
  · exact H' _ _ _ _ _ hx

/-! Two strings compared, by the form's own entry. -/
def cmpOf : List V → Option (List UInt8 × List UInt8)
  | [.str a, .str b] => some (a, b)
  | _ => none
def cmpHook (f0 : FuncId) : Hook := fun f args s => bif Nat.beq f f0 then (cmpOf args).map fun q => some (.int .i64 (Lib.compareBytes q.1 q.2), s) else none
theorem cmpHook_nx (f0 : FuncId) : HookNx (cmpHook f0) := by
  intro f args s v s' hx
  unfold cmpHook at hx
  rw [cond_some] at hx
  obtain ⟨q, _, hx⟩ := Option.map_some'.1 hx.2
  cases hx; exact Nat.le_refl _
theorem cmpHook_sound {f0 : FuncId} {fn : Func} (hf : P.funcs[f0]? = some fn) (hname : (fn.name == "runtime.NumGoroutine") = false) (hb : fn.body.isNone = true) (hn : Extern.findNext fn = none)
    (he : Extern.find fn = some Extern.BytealgCompare.compare) : HookS P (cmpHook f0) := by
  intro f args s v s' hx φ w us hh ha hfr
  unfold cmpHook at hx
  rw [cond_some] at hx
  obtain ⟨h0, hx⟩ := hx
  obtain ⟨⟨a, b⟩, hq, hx⟩ := Option.map_some'.1 hx
  have := Nat.eq_of_beq_eq_true h0; subst this
  cases hx
  unfold cmpOf at hq
  split at hq
  · rename_i x y
    cases hq
    cases ha with
    | cons _ _ _ _ h1 ha =>
      cases ha with
      | cons _ _ _ _ h2 ha =>
        cases ha
        cases h1; cases h2
        left
        refine ⟨_, w, ?_, φ, hh, Ext.refl _ _ _, Rv.int _ _⟩
        have := run_callFunc_extern hf hname hb hn he #[.string ⟨⟨a⟩⟩, .string ⟨⟨b⟩⟩] w
        rw [Lib.run_compareString] at this
        exact this
  · cases hq

/-! Runs that are known: a function of a row of plain values and a view of 64 cells of another one. -/
structure Mem where
  st : List V
  row : List V
  x : Bool
  esz : Nat
  o : Nat
  out : List V
def plainV : V → Bool
  | .int _ _ => true
  | .bool _ => true
  | _ => false
def plainL : List V → Bool
  | [] => true
  | v :: l => plainV v && plainL l
def Mem.state (m : Mem) : St := ⟨T.set HD (.nil HD) 0 (.cells m.row m.x m.esz), 1⟩
def rowIs (m : Mem) : Option Blk → Bool
  | some (.cells r y e) => V.beqL r m.row && boolEq y m.x && Nat.beq e m.esz
  | _ => false
def memOut (m : Mem) : Option (End × Option (List PE) × St) → Bool
  | some (.ret (.agg l), _, s) => V.beqL l m.out && rowIs m (s.get 0) && plainL m.row && plainL m.out && plainL m.st
  | _ => false
def memOk (P : Program) (n : Nat) (f : FuncId) (m : Mem) : Bool := memOut m ((ev P noHook n).call f [.agg m.st, .slice 0 m.o 64 64 false] none m.state)
def memArgs : List V → Option (List V × Nat × Nat)
  | [.agg st, .slice b o l c sl] => bif Nat.beq l 64 && Nat.beq c 64 && !sl then some (st, b, o) else none
  | _ => none
def Mem.is (m : Mem) (st row : List V) (x : Bool) (esz o : Nat) : Bool := Nat.beq m.o o && Nat.beq m.esz esz && boolEq m.x x && V.beqL m.st st && V.beqL m.row row
def memFind (st row : List V) (x : Bool) (esz o : Nat) : List Mem → Option (List V)
  | [] => none
  | m :: l => bif m.is st row x esz o then some m.out else memFind st row x esz o l
def memBlk (tab : List Mem) (st : List V) (o : Nat) : Blk → Option (List V)
  | .cells row x esz => memFind st row x esz o tab
  | _ => none
def memHook (f0 : FuncId) (tab : List Mem) : Hook := fun f args s =>
  bif Nat.beq f f0 then (memArgs args).bind fun q => (s.get q.2.1).bind fun b => (memBlk tab q.1 q.2.2 b).map fun l => some (.agg l, s) else none
theorem memHook_nx (f0 : FuncId) (tab : List Mem) : HookNx (memHook f0 tab) := by
  intro f args s v s' hx
  unfold memHook at hx
  rw [cond_some] at hx
  obtain ⟨_, hx⟩ := hx
  simp only [Option.bind_some', Option.map_some'] at hx
  obtain ⟨_, _, _, _, _, _, hx⟩ := hx
  cases hx; exact Nat.le_refl _

theorem plainV_rv {φ φ' : Phi} {v : V} (h : plainV v = true) {u : Value} (r : Rv φ v u) : Rv φ' v u := by
  cases v <;> simp [plainV] at h <;> cases r
  · exact .bool _
  · exact .int _ _
theorem plainL_mem : ∀ {l : List V}, plainL l = true → ∀ v ∈ l, plainV v = true
  | v :: l, h, x, hx => by
    rw [plainL, Bool.and_eq_true] at h
    rcases List.mem_cons.1 hx with rfl | hx
    · exact h.1
    · exact plainL_mem h.2 x hx
theorem plain_rowR {φ φ' : Phi} {l : List V} (h : plainL l = true) {d : Nat} {c : Array Value} (r : RowR φ l d c) : RowR φ' l d c := by
  intro i v hi
  obtain ⟨h1, u, h2, h3⟩ := r i v hi
  exact ⟨h1, u, h2, plainV_rv (plainL_mem h v (List.mem_of_getElem? hi)) h3⟩
theorem plain_rvL {φ φ' : Phi} : ∀ {l : List V} {us : List Value}, plainL l = true → RvL φ l us → RvL φ' l us
  | [], _, _, .nil => .nil
  | v :: l, _, h, .cons _ u _ m r rl => by
    rw [plainL, Bool.and_eq_true] at h
    exact .cons v u l m (plainV_rv h.1 r) (plain_rvL h.2 rl)

theorem memFind_spec {st row : List V} {x : Bool} {esz o : Nat} {out : List V} : ∀ {tab : List Mem}, memFind st row x esz o tab = some out → ∃ m ∈ tab, m.st = st ∧ m.row = row ∧ m.x = x ∧ m.esz = esz ∧ m.o = o ∧ m.out = out
  | [], h => by cases h
  | m :: l, h => by
    unfold memFind at h
    cases hm : m.is st row x esz o with
    | true =>
      rw [hm, cond_true] at h
      cases h
      simp only [Mem.is, Bool.and_eq_true] at hm
      obtain ⟨⟨⟨⟨h1, h2⟩, h3⟩, h4⟩, h5⟩ := hm
      exact ⟨m, List.mem_cons_self, V.beqL_eq h4, V.beqL_eq h5, by rw [boolEq_eq] at h3; simpa using h3, Nat.eq_of_beq_eq_true h2, Nat.eq_of_beq_eq_true h1, rfl⟩
    | false =>
      rw [hm, cond_false] at h
      obtain ⟨m', h1, h2⟩ := memFind_spec h
      exact ⟨m', List.mem_cons_of_mem _ h1, h2⟩

theorem done_mono {res : Result Next} {R R' : Ending → World → Prop} (h : ∀ e w, R e w → R' e w) (d : Done P res R) : Done P res R' := by
  rcases d with ⟨u, w', h1, h2⟩ | ⟨g, us, w1, h1, h2⟩
  · exact .inl ⟨u, w', h1, h _ _ h2⟩
  · exact .inr ⟨g, us, w1, h1, h2.mono h⟩

theorem memHook_sound (hN : NoCount P) (hM : P.follows .mixedOrders = true) {f0 : FuncId} {n : Nat} {tab : List Mem} (hall : ∀ m ∈ tab, memOk P n f0 m = true) : HookS P (memHook f0 tab) := by
  intro f args s v s' hx φ w us hh ha hfr
  unfold memHook at hx
  rw [cond_some] at hx
  obtain ⟨h0, hx⟩ := hx
  have := Nat.eq_of_beq_eq_true h0; subst this
  simp only [Option.bind_some', Option.map_some'] at hx
  obtain ⟨⟨st, b, o⟩, hq, blk, hblk, l, hl, hx⟩ := hx
  cases hx
  simp only at hblk hl
  unfold memArgs at hq
  split at hq
  case h_2 => cases hq
  rename_i st' b' o' ln cp sl
  rw [cond_some] at hq
  obtain ⟨hc, hq⟩ := hq
  cases hq
  simp only [Bool.and_eq_true, Bool.not_eq_true'] at hc
  obtain ⟨⟨c1, c2⟩, c3⟩ := hc
  have e1 := Nat.eq_of_beq_eq_true c1
  have e2 := Nat.eq_of_beq_eq_true c2
  subst e1; subst e2; subst c3
  unfold memBlk at hl
  split at hl
  case h_2 => cases hl
  rename_i row x esz
  obtain ⟨m, hm, rfl, rfl, rfl, rfl, rfl, rfl⟩ := memFind_spec hl
  have hok := hall m hm
  unfold memOk memOut at hok
  split at hok
  case h_2 => cases hok
  rename_i out rc s2 hrun
  simp only [Bool.and_eq_true] at hok
  obtain ⟨⟨⟨⟨k1, k2⟩, k3⟩, k4⟩, k5⟩ := hok
  have := V.beqL_eq k1; subst this
  unfold rowIs at k2
  split at k2
  case h_2 => cases k2
  rename_i r2 y2 z2 hget2
  simp only [Bool.and_eq_true] at k2
  obtain ⟨⟨j1, j2⟩, j3⟩ := k2
  have := V.beqL_eq j1; subst this
  have j2 : y2 = m.x := by rw [boolEq_eq] at j2; simpa using j2
  have j3 := Nat.eq_of_beq_eq_true j3
  subst j2; subst j3
  -- the arguments
  cases ha with
  | cons _ _ _ _ a1 ha =>
    cases ha with
    | cons _ _ _ _ a2 ha =>
      cases ha
      cases a1 with
      | agg _ cst hst =>
        cases a2 with
        | slice _ _ _ _ _ L hL =>
          have hb := hh.blk b L _ hL hblk
          have hlt := hh.lt b L hL
          have hget0 : ∀ c, m.state.get c = if c = 0 then some (.cells m.row m.x m.esz) else none := by
            intro c
            show T.get HD (T.set HD (T.nil HD) 0 (Blk.cells m.row m.x m.esz)) c = _
            rw [T.get_set, T.get_nil]
            by_cases e : c = 0
            · rw [if_pos ⟨by decide, e⟩, if_pos e]
            · rw [if_neg (fun h => e h.2), if_neg e]
          have hphi : ∀ c l, phiOf [L] c = some l → c = 0 ∧ l = L := by
            intro c l h
            cases c with
            | zero => exact ⟨rfl, by simpa [phiOf] using h.symm⟩
            | succ c => simp [phiOf] at h
          have hrow : ∀ {φ₁ φ₂ : Phi} {w₁ : World}, Rb φ₁ w₁ L (.cells m.row m.x m.esz) → Rb φ₂ w₁ L (.cells m.row m.x m.esz) := by
            rintro φ₁ φ₂ w₁ ⟨c, e, lo, hi, g1, g2, g3⟩
            exact ⟨c, e, lo, hi, g1, plain_rowR k3 g2, g3⟩
          have hRh : Rh (phiOf [L]) m.state w := by
            refine ⟨fun c l y h1 h2 => ?_, fun c c' l l' y y' h1 h2 _ _ _ _ _ => ?_, fun c l h1 => ?_, fun c hc => ?_⟩
            · obtain ⟨rfl, rfl⟩ := hphi c l h1
              rw [hget0, if_pos rfl] at h2
              cases h2
              exact hrow hb
            · rw [(hphi c l h1).1, (hphi c' l' h2).1]
            · rw [(hphi c l h1).2]; exact hlt
            · rw [hget0, if_neg (fun e => by rw [e] at hc; exact absurd hc (by show ¬ (1 ≤ 0); decide))]
          have hargs : RvL (phiOf [L]) [.agg m.st, .slice 0 m.o 64 64 false] [.agg ⟨cst⟩, .slice (some ⟨L.blk, L.dl + m.o, none⟩) 64 (64 + if false = true then L.sk else 0)] :=
            .cons _ _ _ _ (.agg _ _ (plain_rvL k5 hst)) (.cons _ _ _ _ (Rv.slice (φ := phiOf [L]) 0 m.o 64 64 false L rfl) .nil)
          have hs := ev_sound hN noHook_sound noHook_nx (fun hr hnx => draw_sound hM hr hnx) n
          have hd := hs.call hrun hRh hargs (fun c h1 _ => by
            cases c with
            | zero => exact absurd h1 (by show ¬ (1 ≤ 0); decide)
            | succ c => simp [phiOf])
          refine done_mono ?_ hd
          rintro e' w' ⟨φ', p1, p2, p3⟩
          have hL' : φ' 0 = some L := p2.le 0 L rfl
          have hframe : ∀ B, B < w.heap.size → L.blk ≠ B → w'.heap[B]? = w.heap[B]? := fun B hB hne => p2.frame B hB fun c l y h1 h2 _ => by rw [(hphi c l h1).2]; exact hne
          refine ⟨φ, ⟨fun c l y h1 h2 => ?_, hh.inj, fun c l h1 => Nat.lt_of_lt_of_le (hh.lt c l h1) p2.size, hh.wf⟩,
            ⟨fun _ _ h => h, fun _ _ => rfl, Nat.le_refl _, fun _ _ _ => rfl, p2.size, fun B hB hne => hframe B hB (hne b L _ hL hblk trivial), fun c l y h1 h2 h3 _ => ⟨c, l, y, h1, h2, h3, rfl⟩, p2.sm⟩, ?_⟩
          · by_cases hd : y.live
            · by_cases he : l.blk = L.blk
              · have := hh.inj c b l L y _ h1 hL h2 hblk hd trivial he
                subst this
                rw [hL] at h1; cases h1
                rw [hblk] at h2; cases h2
                exact hrow (p1.blk 0 L _ hL' hget2)
              · exact (hh.blk c l y h1 h2).mono (fun _ _ h => h) (hframe _ (hh.lt c l h1) (fun e => he e.symm))
            · cases y <;> first | exact absurd trivial hd | trivial
          · cases e' with
            | returned u =>
              have p3 : Rv φ' (.agg m.out) u := p3
              cases p3 with
              | agg _ cs hcs => exact Rv.agg _ _ (plain_rvL k4 hcs)
            | panicked _ => exact p3.elim
            | outgrown => exact p3.elim

/-! A call of no arguments that is known to answer true. -/
def closedHook (f0 : FuncId) : Hook := fun f args s => bif Nat.beq f f0 && args.isEmpty then some (some (.bool true, s)) else none
theorem closedHook_nx (f0 : FuncId) : HookNx (closedHook f0) := by
  intro f args s v s' hx
  unfold closedHook at hx
  rw [cond_some] at hx
  cases hx.2; exact Nat.le_refl _
theorem closedHook_sound {hook : Hook} (hN : NoCount P) (hH : HookS P hook) (hX : HookNx hook) (hM : P.follows .mixedOrders = true) {f0 : FuncId} {n : Nat}
    (h : okB ((ev P hook n).call f0 [] none (sN 0)) = true) : HookS P (closedHook f0) := by
  intro f args s v s' hx φ w us hh ha hfr
  unfold closedHook at hx
  rw [cond_some, Bool.and_eq_true] at hx
  obtain ⟨⟨h0, h1⟩, hx⟩ := hx
  have := Nat.eq_of_beq_eq_true h0; subst this
  have : args = [] := by simpa using h1
  subst this
  cases ha
  cases hx
  obtain ⟨rc, s2, hrun⟩ := okB_spec h
  have hs := ev_sound hN hH hX (fun hr hnx => draw_sound hM hr hnx) n
  have hd := hs.call hrun (rhN (Ls := []) (w := w) (fun _ h => by cases h)) .nil (fun c h1 _ => by show ([] : List Loc)[c]? = none; simp)
  refine done_mono ?_ hd
  rintro e' w' ⟨φ', p1, p2, p3⟩
  have hframe : ∀ B, B < w.heap.size → w'.heap[B]? = w.heap[B]? := fun B hB => p2.frame B hB fun c l y _ h2 _ => by rw [show (sN 0).get c = none from T.get_nil _ _] at h2; cases h2
  refine ⟨φ, ⟨fun c l y h1 h2 => (hh.blk c l y h1 h2).mono (fun _ _ h => h) (hframe _ (hh.lt c l h1)), hh.inj, fun c l h1 => Nat.lt_of_lt_of_le (hh.lt c l h1) p2.size, hh.wf⟩,
    ⟨fun _ _ h => h, fun _ _ => rfl, Nat.le_refl _, fun _ _ _ => rfl, p2.size, fun B hB _ => hframe B hB, fun c l y h1 h2 h3 _ => ⟨c, l, y, h1, h2, h3, rfl⟩, p2.sm⟩, ?_⟩
  cases e' with
  | returned u =>
    have p3 : Rv φ' (.bool true) u := p3
    cases p3; exact .bool _
  | panicked _ => exact p3.elim
  | outgrown => exact p3.elim
theorem memOk_K {n : Nat} {f : FuncId} {m : Mem} (h : memOut m ((K.evK P noHook n).call f [.agg m.st, .slice 0 m.o 64 64 false] none m.state) = true) : memOk P n f m = true := by
  rw [K.evK_ok] at h; exact h
theorem opsF_append {r : R} {ro : Option Nat} {all : List Oper} : ∀ (x y : List Oper) (a : Act) (s : St), opsF P r ro all (x ++ y) a s = andThen (opsF P r ro all x a s) (opsF P r ro all y)
  | [], y, a, s => rfl
  | o :: x, y, a, s => by
    show andThen (opF P r ro all o a s) (fun a s => opsF P r ro all (x ++ y) a s) = andThen (andThen (opF P r ro all o a s) fun a s => opsF P r ro all x a s) (opsF P r ro all y)
    cases opF P r ro all o a s with
    | none => rfl
    | some q =>
      obtain ⟨e, a, s⟩ := q
      cases e with
      | norm => exact opsF_append x y a s
      | _ => rfl
end
end Go.Ev
