/- The evaluator's small steps: operands, parts of values, reading and writing memory. -/
import Derived.Test.YtcbhnjlbolafpabGreatDoorEvB
set_option linter.unusedSimpArgs false
set_option linter.unusedVariables false
namespace Go.Ev

theorem Option.bind_some' {α β : Type} {x : Option α} {f : α → Option β} {y : β} : x.bind f = some y ↔ ∃ a, x = some a ∧ f a = some y := by
  cases x <;> simp
theorem Option.map_some' {α β : Type} {x : Option α} {f : α → β} {y : β} : x.map f = some y ↔ ∃ a, x = some a ∧ f a = y := by
  cases x <;> simp

/-! Deferred calls, a frame's slots. -/
inductive RD (φ : Phi) : Dfr → Deferred → Prop
  | fn (f g : Fn) (cap args : List V) (ccap cargs : List Value) : RFn φ f g → RvL φ cap ccap → RvL φ args cargs →
      RD φ (.fn f cap args) { target := .fn g ⟨ccap⟩, args := ⟨cargs⟩ }
  | coll (d : Nat) (l : Loc) : φ d = some l → RD φ (.coll d) { target := .collected l.blk, args := #[] }
inductive RDs (φ : Phi) : List Dfr → List Deferred → Prop
  | nil : RDs φ [] []
  | cons (d : Dfr) (e : Deferred) (l : List Dfr) (m : List Deferred) : RD φ d e → RDs φ l m → RDs φ (d :: l) (e :: m)
theorem RD.mono {φ φ' : Phi} (h : PLe φ φ') {d : Dfr} {e : Deferred} (r : RD φ d e) : RD φ' d e := by
  cases r with
  | fn f g cap args ccap cargs h1 h2 h3 => exact .fn _ _ _ _ _ _ (h1.mono h) (h2.mono h) (h3.mono h)
  | coll d l hd => exact .coll d l (h _ _ hd)
theorem RDs.mono {φ φ' : Phi} (h : PLe φ φ') : ∀ {l : List Dfr} {m : List Deferred}, RDs φ l m → RDs φ' l m
  | _, _, .nil => .nil
  | _, _, .cons d e l m hd hl => .cons d e l m (hd.mono h) (hl.mono h)

structure Ra (φ : Phi) (a : Act) (c : Go.Act) : Prop where
  t : RT φ a.tmps a.size c.tmps
  d : RDs φ a.defers c.defers
theorem Ra.mono {φ φ' : Phi} (h : PLe φ φ') {a : Act} {c : Go.Act} (r : Ra φ a c) : Ra φ' a c := ⟨r.t.mono h, r.d.mono h⟩

theorem RT.put {φ : Phi} {t : T V TD} {n : Nat} {c : Array Value} (r : RT φ t n c) {d : Nat} {v : V} {u : Value} (hd : d < n) (h : Rv φ v u) :
    RT φ (T.set TD t d v) n (c.setIfInBounds d u) where
  size := by simp [r.size]
  lt := r.lt
  slot := fun i => by
    have hp : d < 4 ^ TD := Nat.lt_of_lt_of_le hd r.lt
    have hs := r.size
    rw [T.get_set]
    by_cases e : i = d
    · subst e
      rw [if_pos ⟨hp, rfl⟩]
      simp [Array.getD_eq_getD_getElem?, Array.getElem?_setIfInBounds, show i < c.size by omega, h]
    · rw [if_neg (fun hh => e hh.2)]
      have := r.slot i
      simp only [Array.getD_eq_getD_getElem?] at this ⊢
      rw [Array.getElem?_setIfInBounds_ne (fun hh => e hh.symm)]
      exact this
theorem RT.put_out {φ : Phi} {t : T V TD} {n : Nat} {c : Array Value} (r : RT φ t n c) {d : Nat} {u : Value} (hd : ¬ d < n) : RT φ t n (c.setIfInBounds d u) := by
  have hs := r.size
  have : c.setIfInBounds d u = c := by
    apply Array.ext (by simp)
    intro i h1 h2
    rw [Array.getElem_setIfInBounds h2]
    rw [if_neg (by omega)]
  rw [this]; exact r
theorem Ra.put {φ : Phi} {a : Act} {c : Go.Act} (r : Ra φ a c) {v : V} {u : Value} (h : Rv φ v u) (dst : Option Tmp) : Ra φ (a.put dst v) (c.put dst u) := by
  cases dst with
  | none => exact r
  | some d =>
    by_cases hd : d < a.size
    · have hb : Nat.blt d a.size = true := by rw [Nat.blt_eq]; exact hd
      have : a.put (some d) v = ⟨T.set TD a.tmps d v, a.size, a.defers, a.rc⟩ := by simp [Act.put, hb]
      rw [this]
      exact ⟨r.t.put hd h, r.d⟩
    · have : a.put (some d) v = a := by
        have : Nat.blt d a.size = false := by
          cases hb : Nat.blt d a.size with
          | false => rfl
          | true => exact absurd (by simpa [Nat.blt_eq] using hb) hd
        simp [Act.put, this]
      rw [this]
      exact ⟨r.t.put_out hd, r.d⟩
theorem Act.put_rc (a : Act) (dst : Option Tmp) (v : V) : (a.put dst v).rc = a.rc := by
  cases dst with
  | none => rfl
  | some d => simp only [Act.put]; cases Nat.blt d a.size <;> rfl
theorem Act.put_defers (a : Act) (dst : Option Tmp) (v : V) : (a.put dst v).defers = a.defers := by
  cases dst with
  | none => rfl
  | some d => simp only [Act.put]; cases Nat.blt d a.size <;> rfl

/-! Constants. -/
theorem ofCell_sound {φ : Phi} {v : Value} {x : V} (h : ofCell v = some x) : Rv φ x v ∧ x.one = true := by
  unfold ofCell at h
  split at h <;> cases h
  · exact ⟨.bool _, rfl⟩
  · exact ⟨.int _ _, rfl⟩
  · exact ⟨.str _, rfl⟩
  · exact ⟨.nilp, rfl⟩
  · exact ⟨.nils, rfl⟩
  · exact ⟨.nilm, rfl⟩
  · exact ⟨.nilf, rfl⟩
  · exact ⟨.nili, rfl⟩
theorem ofCells_sound {φ : Phi} : ∀ {l : List Value} {m : List V}, ofCells l = some m → RvL φ m l ∧ allOne m = true
  | [], m, h => by simp [ofCells] at h; subst h; exact ⟨.nil, rfl⟩
  | v :: l, m, h => by
    simp only [ofCells, Option.bind_some', Option.map_some'] at h
    obtain ⟨a, ha, b, hb, rfl⟩ := h
    obtain ⟨h1, h2⟩ := ofCell_sound (φ := φ) ha
    obtain ⟨h3, h4⟩ := ofCells_sound hb
    exact ⟨.cons _ _ _ _ h1 h3, by simp [allOne, h2, h4]⟩
theorem ofValue_sound {φ : Phi} {v : Value} {x : V} (h : ofValue v = some x) : Rv φ x v := by
  unfold ofValue at h
  split at h
  · obtain ⟨m, hm, rfl⟩ := Option.map_some'.1 h
    exact .agg _ _ (ofCells_sound hm).1
  · obtain ⟨m, hm, rfl⟩ := Option.map_some'.1 h
    exact .tup _ _ (ofCells_sound hm).1
  · rename_i f first cap
    rw [cond_some] at h
    obtain ⟨hh, h⟩ := h
    cases h
    obtain ⟨first⟩ := first
    obtain ⟨cap⟩ := cap
    simp only [Bool.and_eq_true, List.isEmpty_iff] at hh
    obtain ⟨h1, h2⟩ := hh
    subst h1; subst h2
    exact .func _ _ _ _ _ _ (.func f) .nil .nil
  · exact (ofCell_sound h).1

theorem eval_sound {φ : Phi} {a : Act} {c : Go.Act} (r : Ra φ a c) {x : Operand} {v : V} (h : a.eval x = some v) : Rv φ v (c.eval x) := by
  cases x with
  | tmp t => simp only [Act.eval, Option.some.injEq] at h; subst h; exact r.t.slot t
  | const u => exact ofValue_sound h
  | global g => simp [Act.eval] at h
  | func f => simp only [Act.eval, Option.some.injEq] at h; subst h; exact .func _ _ _ _ _ _ (.func f) .nil .nil
theorem evals_sound {φ : Phi} {a : Act} {c : Go.Act} (r : Ra φ a c) : ∀ {l : List Operand} {m : List V}, evals a l = some m → RvL φ m (l.map c.eval)
  | [], m, h => by simp [evals] at h; subst h; exact .nil
  | x :: l, m, h => by
    simp only [evals, Option.bind_some', Option.map_some'] at h
    obtain ⟨v, hv, w, hw, rfl⟩ := h
    exact .cons _ _ _ _ (eval_sound r hv) (evals_sound r hw)

/-! Tables. -/
section
variable {P : Program}

theorem run_sz {t : TypeId} {n : Nat} (h : szOf P t = some n) (w : World) : (sizeOf t).run P w = .ok n w := by
  unfold szOf at h
  obtain ⟨i, hi, rfl⟩ := Option.map_some'.1 h
  simp [sizeOf, typeInfo, hi]
theorem run_inf {t : TypeId} {i : TypeInfo} (h : P.info? t = some i) (w : World) : (typeInfo t).run P w = .ok i w := by simp [typeInfo, h]
theorem run_agg {t : TypeId} {b : Bool} (h : agg? P t = some b) (w : World) : (isAgg t).run P w = .ok b w := by
  unfold agg? at h
  obtain ⟨d, hd, rfl⟩ := Option.map_some'.1 h
  simp only [isAgg, Sem.run_bind, run_underlying hd, Result.andThen_ok]
  cases d <;> rfl
theorem run_zero {φ : Phi} {t : TypeId} {v : V} (h : zeroV P t = some v) (w : World) : ∃ u, (zeroValue t).run P w = .ok u w ∧ Rv φ v u := by
  unfold zeroV at h
  obtain ⟨i, hi, h⟩ := Option.bind_some'.1 h
  obtain ⟨u, hu, h⟩ := Option.bind_some'.1 h
  exact ⟨u, by simp [zeroValue, typeInfo, hi, hu], ofValue_sound h⟩
theorem cells_sound {φ : Phi} {v : V} {u : Value} (h : Rv φ v u) : RvL φ (cellsOf v) u.cells.toList := by
  have h' := h
  cases h <;> first
    | exact .cons _ _ _ _ h' .nil
    | (rename_i hl; exact hl)

theorem takeN_spec : ∀ {n : Nat} {l m : List V}, takeN n l = some m → m = l.take n ∧ n ≤ l.length
  | 0, l, m, h => by simp [takeN] at h; subst h; simp
  | n + 1, [], m, h => by simp [takeN] at h
  | n + 1, v :: l, m, h => by
    simp only [takeN, Option.map_some'] at h
    obtain ⟨k, hk, rfl⟩ := h
    obtain ⟨h1, h2⟩ := takeN_spec hk
    subst h1
    exact ⟨by simp, by simp; omega⟩

theorem addr_add (B off n : Nat) : Addr.add ⟨B, off, none⟩ n = ⟨B, off + n, none⟩ := by
  unfold Addr.add; split
  · rename_i h; subst h; rfl
  · rfl
theorem cell?_of {w : World} {B : Nat} {c : Array Value} {e : TypeId} {fr : Nat × Nat} (h : w.heap[B]? = some (.cells c e fr)) (off : Nat) :
    w.cell? ⟨B, off, none⟩ = c[off]? := by simp [World.cell?, h]
theorem frozen?_of {w : World} {B : Nat} {c : Array Value} {e : TypeId} {lo hi : Nat} (h : w.heap[B]? = some (.cells c e (lo, hi))) (off : Nat) :
    w.frozen? ⟨B, off, none⟩ = (lo ≤ off && off < hi) := by simp [World.frozen?, h]

/-- a row reads as its cells -/
theorem run_row {φ : Phi} {w : World} {cs m : List V} {dl n : Nat} {B : Nat} {c : Array Value} {e : TypeId} {fr : Nat × Nat} (h : w.heap[B]? = some (.cells c e fr))
    (hr : RowR φ cs dl c) (o : Nat) (hm : takeN n (cs.drop o) = some m) :
    ∃ us, (∀ w' : World, w'.heap = w.heap → (loadCells ⟨B, dl + o, none⟩ n).run P w' = .ok ⟨us⟩ w') ∧ RvL φ m us ∧ us.length = n := by
  obtain ⟨rfl, hn⟩ := takeN_spec hm
  simp at hn
  refine ⟨(List.range n).map fun j => c.getD (dl + o + j) Go.undef, ?_, ?_, by simp⟩
  · intro w' hw'
    refine run_loadCells w' _ n _ fun j hj => ?_
    rw [addr_add, cell?_of (by rw [hw']; exact h)]
    obtain ⟨_, u, hu, _⟩ := hr (o + j) (cs[o + j]'(by omega)) (List.getElem?_eq_getElem _)
    rw [← Nat.add_assoc] at hu
    rw [hu]; simp [Array.getD_eq_getD_getElem?, hu]
  · refine RvL.of_get (by simp; omega) fun i v u hv hu => ?_
    have hi : i < n := by
      have := List.getElem?_eq_some_iff.1 hv
      obtain ⟨h1, _⟩ := this
      simp at h1; omega
    simp [List.getElem?_take, hi, List.getElem?_drop] at hv
    obtain ⟨_, u', hu', hR⟩ := hr (o + i) v hv
    simp [hi] at hu
    rw [← Nat.add_assoc] at hu'
    simp [hu'] at hu
    subst hu; exact hR
theorem run_cell {φ : Phi} {w : World} {cs : List V} {v : V} {dl : Nat} {B : Nat} {c : Array Value} {e : TypeId} {fr : Nat × Nat} (h : w.heap[B]? = some (.cells c e fr))
    (hr : RowR φ cs dl c) (o : Nat) (hm : (cs.drop o).head? = some v) : ∃ u, (load ⟨B, dl + o, none⟩).run P w = .ok u w ∧ Rv φ v u := by
  simp [List.head?_drop] at hm
  obtain ⟨_, u, hu, hR⟩ := hr o v hm
  exact ⟨u, by simp [cell?_of h, hu], hR⟩

theorem row_blk {φ : Phi} {s : St} {w : World} (hh : Rh φ s w) {b : Nat} {l : Loc} (hb : φ b = some l) {cs : List V} (h : s.row b = some cs) :
    ∃ c e fr, w.heap[l.blk]? = some (.cells c e fr) ∧ RowR φ cs l.dl c := by
  unfold St.row at h
  obtain ⟨x, hx, hc⟩ := Option.bind_some'.1 h
  cases x <;> simp [asCells] at hc
  subst hc
  obtain ⟨c, e, lo, hi, h1, h2, _⟩ := hh.blk b l _ hb hx
  exact ⟨c, e, (lo, hi), h1, h2⟩

theorem ldVar_sound {φ : Phi} {s : St} {w : World} (hh : Rh φ s w) {t : TypeId} {b o : Nat} {v : V} {l : Loc} (hb : φ b = some l) (h : ldVar P s t b o = some v) :
    ∃ u, (loadVar t ⟨l.blk, l.dl + o, none⟩).run P w = .ok u w ∧ Rv φ v u := by
  unfold ldVar at h
  obtain ⟨cs, hcs, h⟩ := Option.bind_some'.1 h
  obtain ⟨c, e, fr, h1, h2⟩ := row_blk hh hb hcs
  unfold partOf at h
  obtain ⟨g, hg, h⟩ := Option.bind_some'.1 h
  cases g with
  | true =>
    simp only [cond_true, Option.bind_some', Option.map_some'] at h
    obtain ⟨n, hn, m, hm, rfl⟩ := h
    obtain ⟨us, hu, hR, _⟩ := run_row (P := P) h1 h2 o hm
    exact ⟨.agg ⟨us⟩, by simp [loadVar, run_agg hg, run_sz hn, hu w rfl], .agg _ _ hR⟩
  | false =>
    simp only [cond_false] at h
    obtain ⟨u, hu, hR⟩ := run_cell (P := P) h1 h2 o h
    refine ⟨u, ?_, hR⟩
    simp only [loadVar, Sem.run_bind, run_agg hg, Result.andThen_ok]
    simpa using hu

theorem part_sound {φ : Phi} {w : World} {t : TypeId} {cs : List V} {us : List Value} {off : Nat} {v : V} (hr : RvL φ cs us) (h : partOf P t cs off = some v) :
    ∃ u, (part t ⟨us⟩ off).run P w = .ok u w ∧ Rv φ v u := by
  unfold partOf at h
  obtain ⟨g, hg, h⟩ := Option.bind_some'.1 h
  cases g with
  | true =>
    simp only [cond_true, Option.bind_some', Option.map_some'] at h
    obtain ⟨n, hn, m, hm, rfl⟩ := h
    obtain ⟨rfl, hlen⟩ := takeN_spec hm
    refine ⟨.agg ⟨(us.drop off).take n⟩, ?_, .agg _ _ ?_⟩
    · simp only [part, Sem.run_bind, run_agg hg, Result.andThen_ok, if_true, run_sz hn, Sem.run_pure]
      congr 2
      apply Array.ext'
      simp [List.drop_take]
    · have hd := hr.drop off
      refine RvL.of_get (by have := hd.length; simp only [List.length_take, this]) fun i x y hx hy => ?_
      by_cases hi : i < n
      · simp [List.getElem?_take, hi] at hx hy
        obtain ⟨y', hy', hR⟩ := hr.get _ _ hx
        rw [hy] at hy'; cases hy'; exact hR
      · simp [List.getElem?_take, hi] at hx
  | false =>
    simp only [cond_false, List.head?_drop] at h
    obtain ⟨u, hu, hR⟩ := hr.get _ _ h
    refine ⟨u, ?_, hR⟩
    simp only [part, Sem.run_bind, run_agg hg, Result.andThen_ok]
    simp [hu]
end
end Go.Ev
