/- The evaluator's steps that write memory, or make it. -/
import Derived.Test.YtcbhnjlbolafpabGreatDoorEvC
set_option linter.unusedSimpArgs false
set_option linter.unusedVariables false
namespace Go.Ev

theorem one_cell {φ : Phi} {v : V} {u : Value} (h : Rv φ v u) (hv : v.one = true) : u.oneCell' = true := by
  cases h <;> first | rfl | (simp [V.one] at hv)

theorem overlay_spec : ∀ {l vs m : List V}, overlay l vs = some m → m.length = l.length ∧ vs.length ≤ l.length ∧ (∀ v ∈ vs, v.one = true) ∧
    ∀ j : Nat, m[j]? = if j < vs.length then vs[j]? else l[j]?
  | [], [], m, h => by simp [overlay] at h; subst h; simp
  | a :: l, [], m, h => by simp [overlay] at h; subst h; simp
  | [], _ :: _, m, h => by simp [overlay] at h
  | a :: l, v :: vs, m, h => by
    simp only [overlay, cond_some, Option.map_some'] at h
    obtain ⟨hv, k, hk, rfl⟩ := h
    obtain ⟨h1, h2, h3, h4⟩ := overlay_spec hk
    refine ⟨by simp [h1], by simp; omega, ?_, ?_⟩
    · intro x hx
      cases hx with
      | head => exact hv
      | tail _ hx => exact h3 x hx
    · intro j
      cases j with
      | zero => simp
      | succ j => simp [h4]
theorem putAt_spec : ∀ {o : Nat} {l vs m : List V}, putAt o l vs = some m → m.length = l.length ∧ o + vs.length ≤ l.length ∧ (∀ v ∈ vs, v.one = true) ∧
    ∀ j : Nat, m[j]? = if o ≤ j ∧ j < o + vs.length then vs[j - o]? else l[j]?
  | 0, l, vs, m, h => by
    obtain ⟨h1, h2, h3, h4⟩ := overlay_spec (by simpa [putAt] using h)
    exact ⟨h1, by omega, h3, fun j => by simp [h4]⟩
  | o + 1, [], vs, m, h => by simp [putAt] at h
  | o + 1, x :: l, vs, m, h => by
    simp only [putAt, Option.map_some'] at h
    obtain ⟨k, hk, rfl⟩ := h
    obtain ⟨h1, h2, h3, h4⟩ := putAt_spec hk
    refine ⟨by simp [h1], by simp; omega, h3, ?_⟩
    intro j
    cases j with
    | zero => simp
    | succ j =>
      simp only [List.getElem?_cons_succ, h4]
      by_cases hj : o ≤ j ∧ j < o + vs.length
      · rw [if_pos hj, if_pos (by omega), show j + 1 - (o + 1) = j - o by omega]
      · rw [if_neg hj, if_neg (by omega)]

theorem setCell_spec {w : World} {B off : Nat} {c : Array Value} {e : TypeId} {fr : Nat × Nat} (h : w.heap[B]? = some (.cells c e fr)) (v : Value) :
    (w.setCell ⟨B, off, none⟩ v).heap.size = w.heap.size ∧ (∀ B', B' ≠ B → (w.setCell ⟨B, off, none⟩ v).heap[B']? = w.heap[B']?) ∧
      (w.setCell ⟨B, off, none⟩ v).heap[B]? = some (.cells (c.setIfInBounds off v) e fr) := by
  refine ⟨by simp, fun B' hB => ?_, ?_⟩
  · simp only [World.setCell, Array.getElem?_modify]
    rw [if_neg (fun e => hB e.symm)]
  · simp only [World.setCell, Array.getElem?_modify]
    simp [h]

theorem setCell_same (w : World) (a : Addr) (v : Value) : Same w (w.setCell a v) := ⟨rfl, rfl, rfl⟩
theorem run_storeCells {P : Program} {B off lo hi : Nat} {e : TypeId} : ∀ (vs : List Value) (i : Nat) (c : Array Value) (w : World),
    w.heap[B]? = some (.cells c e (lo, hi)) → off + i + vs.length ≤ c.size → (∀ j, j < vs.length → ¬ (lo ≤ off + i + j ∧ off + i + j < hi)) → (∀ v ∈ vs, v.oneCell' = true) →
    ∃ w' c', (storeCells ⟨B, off, none⟩ vs i).run P w = .ok () w' ∧ w'.heap.size = w.heap.size ∧ (∀ B', B' ≠ B → w'.heap[B']? = w.heap[B']?) ∧
      w'.heap[B]? = some (.cells c' e (lo, hi)) ∧ c'.size = c.size ∧ (∀ j : Nat, c'[j]? = if off + i ≤ j ∧ j < off + i + vs.length then vs[j - (off + i)]? else c[j]?) ∧ Same w w'
  | [], i, c, w, h, _, _, _ => ⟨w, c, by simp [storeCells], rfl, fun _ _ => rfl, h, rfl, fun j => by rw [if_neg (fun hh => by simp at hh; omega)], Same.refl w⟩
  | v :: vs, i, c, w, h, hsz, hfr, hone => by
    simp only [List.length_cons] at hsz
    obtain ⟨s1, s2, s3⟩ := setCell_spec (off := off + i) h v
    have hcell : w.cell? ⟨B, off + i, none⟩ = some (c[off + i]'(by omega)) := by rw [cell?_of h, Array.getElem?_eq_getElem (by omega)]
    have hfz : w.frozen? ⟨B, off + i, none⟩ = false := by
      rw [frozen?_of h]
      have := hfr 0 (by simp)
      simp only [Nat.add_zero] at this
      simp only [Bool.and_eq_false_iff, decide_eq_false_iff_not]
      omega
    have hst : (store ⟨B, off + i, none⟩ v).run P w = .ok () (w.setCell ⟨B, off + i, none⟩ v) := by
      rw [run_store P w _ v .plain (hone v (by simp)), hcell]
      simp [hfz]
    obtain ⟨w', c', r1, r2, r3, r4, r5, r6, r7⟩ := run_storeCells (P := P) (off := off) (lo := lo) (hi := hi) vs (i + 1) (c.setIfInBounds (off + i) v) (w.setCell ⟨B, off + i, none⟩ v) s3 (by simp; omega)
      (fun j hj => by have := hfr (j + 1) (Nat.succ_lt_succ hj); rw [show off + (i + 1) + j = off + i + (j + 1) by omega]; exact this) (fun u hu => hone u (by simp [hu]))
    refine ⟨w', c', ?_, by rw [r2, s1], fun B' hB => by rw [r3 B' hB, s2 B' hB], r4, by rw [r5]; simp, fun j => ?_, Same.trans (setCell_same w _ v) r7⟩
    · simp only [storeCells, addr_add, Sem.run_bind, hst, Result.andThen_ok, r1]
    · rw [r6]
      by_cases hj : off + (i + 1) ≤ j ∧ j < off + (i + 1) + vs.length
      · rw [if_pos hj, if_pos (by simp; omega)]
        rw [show j - (off + i) = (j - (off + (i + 1))) + 1 by omega]; rfl
      · rw [if_neg hj]
        by_cases hj' : j = off + i
        · subst hj'
          rw [if_pos (by simp)]
          simp [show off + i < c.size by omega]
        · rw [if_neg (by simp; omega), Array.getElem?_setIfInBounds_ne (fun e => hj' e.symm)]

theorem live_cells {l : List V} {x : Bool} {e : Nat} : (Blk.cells l x e).live := trivial

/-- cells are written -/
theorem write_cells {P : Program} {φ : Phi} {s s' : St} {w : World} (hh : Rh φ s w) {b o : Nat} {l : Loc} (hb : φ b = some l) {vs : List V} {us : List Value} (hv : RvL φ vs us)
    (h : s.write b o vs = some s') : ∃ w', (storeCells ⟨l.blk, l.dl + o, none⟩ us).run P w = .ok () w' ∧ Rh φ s' w' ∧ Ext φ s w φ s' w' ∧ s'.next = s.next := by
  unfold St.write at h
  obtain ⟨x, hx, h⟩ := Option.bind_some'.1 h
  obtain ⟨y, hy, rfl⟩ := Option.map_some'.1 h
  cases x <;> simp [putBlk] at hy
  rename_i cs fl esz
  obtain ⟨cs', hp, rfl⟩ := hy
  obtain ⟨p1, p2, p3, p4⟩ := putAt_spec hp
  obtain ⟨c, e, lo, hi, h1, h2, h3, h4, h5⟩ := hh.blk b l _ hb hx
  have hlen := hv.length
  obtain ⟨w', c', r1, r2, r3, r4, r5, r6, r7⟩ := run_storeCells (P := P) (off := l.dl + o) us 0 c w h1 (by omega)
    (fun j hj => by rcases h4 with h4 | h4 <;> omega)
    (fun u hu => by
      obtain ⟨i, hi, rfl⟩ := List.getElem_of_mem hu
      obtain ⟨v, hv', hR⟩ := hv.get' i _ (List.getElem?_eq_getElem hi)
      exact one_cell hR (p3 v (List.mem_of_getElem? hv')))
  have hrow : Rb φ w' l (.cells cs' fl esz) := by
    refine ⟨c', e, lo, hi, r4, ?_, by rw [p1, r5]; exact h3, by rw [r5]; exact h4, h5⟩
    intro i v hi
    rw [p4] at hi
    rw [r6]
    by_cases hj : o ≤ i ∧ i < o + vs.length
    · rw [if_pos hj] at hi
      rw [if_pos (by omega), show l.dl + i - (l.dl + o + 0) = i - o by omega]
      obtain ⟨u, hu, hR⟩ := hv.get _ _ hi
      exact ⟨p3 v (List.mem_of_getElem? hi), u, hu, hR⟩
    · rw [if_neg hj] at hi
      rw [if_neg (by omega)]
      exact h2 i v hi
  obtain ⟨g1, g2⟩ := write_sound hh hb hx live_cells r2 r3 hrow
  exact ⟨w', r1, g1, g2, rfl⟩

theorem stVar_sound {P : Program} {φ : Phi} {s s' : St} {w : World} (hh : Rh φ s w) {t : TypeId} {b o : Nat} {l : Loc} (hb : φ b = some l) {v : V} {u : Value} (hv : Rv φ v u)
    (h : stVar P s t b o v = some s') : ∃ w', (storeVar t ⟨l.blk, l.dl + o, none⟩ u).run P w = .ok () w' ∧ Rh φ s' w' ∧ Ext φ s w φ s' w' ∧ s'.next = s.next := by
  unfold stVar at h
  obtain ⟨n, hn, h⟩ := Option.bind_some'.1 h
  rw [cond_some] at h
  obtain ⟨hl, h⟩ := h
  have hc := cells_sound hv
  obtain ⟨w', r1, r2, r3, r4⟩ := write_cells (P := P) hh hb hc h
  refine ⟨w', ?_, r2, r3, r4⟩
  have hsz : u.cells.size = n := by
    have := hc.length
    have e := Nat.eq_of_beq_eq_true hl
    rw [← e, this]; simp
  simp only [storeVar, Sem.run_bind, run_sz hn, Result.andThen_ok, hsz]
  simp [r1]

theorem allOne_spec : ∀ {l : List V}, allOne l = true → ∀ v ∈ l, v.one = true
  | [], _, v, hv => by simp at hv
  | x :: l, h, v, hv => by
    simp only [allOne, Bool.and_eq_true] at h
    cases hv with
    | head => exact h.1
    | tail _ hv => exact allOne_spec h.2 v hv

/-- a new row: its cells, and some behind them -/
theorem newRow_sound {φ : Phi} {s s' : St} {w w' : World} {cs : List V} {x : Bool} {esz b sk lo hi : Nat} {us rest : List Value} {e : TypeId} (hh : Rh φ s w)
    (hn : s.newRow cs x esz = some (b, s')) (hf : Fresh φ s.next s'.next) (hv : RvL φ cs us) (hsk : sk * esz ≤ rest.length)
    (hw : w'.heap = w.heap.push (.cells ⟨us ++ rest⟩ e (lo, hi))) (hfr : lo = hi ∨ us.length + rest.length ≤ lo) (hx : x = true → lo = 0 ∧ hi = 0 ∧ sk = 0) (sm : Same w w' := by first | exact ⟨rfl, rfl, rfl⟩ | assumption) :
    Rh (upd φ b ⟨w.heap.size, 0, sk⟩) s' w' ∧ Ext φ s w (upd φ b ⟨w.heap.size, 0, sk⟩) s' w' := by
  unfold St.newRow at hn
  rw [cond_some] at hn
  obtain ⟨hone, hn⟩ := hn
  refine alloc_sound hh hn hf hw ?_
  obtain ⟨rfl, hnx, _, _⟩ := St.new_spec hn
  have hle : PLe φ (upd φ s.next ⟨w.heap.size, 0, sk⟩) := upd_le (hf _ (Nat.le_refl _) (by omega))
  have hlen := hv.length
  refine ⟨⟨us ++ rest⟩, e, lo, hi, by rw [hw]; simp, ?_, by simp; omega, by simpa using hfr, fun h => ⟨(hx h).1, (hx h).2.1, rfl, (hx h).2.2⟩⟩
  intro i v hi
  refine ⟨allOne_spec hone v (List.mem_of_getElem? hi), ?_⟩
  obtain ⟨u, hu, hR⟩ := hv.get i v hi
  refine ⟨u, ?_, hR.mono hle⟩
  have : i < us.length := (List.getElem?_eq_some_iff.1 hu).1
  simp [List.getElem?_append_left this, hu]

theorem St.newRow_next {s s' : St} {cs : List V} {x : Bool} {esz b : Nat} (h : s.newRow cs x esz = some (b, s')) : b = s.next ∧ s'.next = s.next + 1 := by
  unfold St.newRow at h
  rw [cond_some] at h
  obtain ⟨h1, h2, _⟩ := St.new_spec h.2
  exact ⟨h1, h2⟩

/-- a new row of just its cells, as the machine's 'newRow' lays it -/
theorem newRow_plain {φ : Phi} {s s' : St} {w : World} {cs : List V} {x : Bool} {esz b : Nat} {us : List Value} {e : TypeId} (hh : Rh φ s w)
    (hn : s.newRow cs x esz = some (b, s')) (hf : Fresh φ s.next s'.next) (hv : RvL φ cs us) :
    Rh (upd φ b ⟨w.heap.size, 0, 0⟩) s' { w with heap := w.heap.push (.cells ⟨us⟩ e) } ∧ Ext φ s w (upd φ b ⟨w.heap.size, 0, 0⟩) s' { w with heap := w.heap.push (.cells ⟨us⟩ e) } := by
  have := newRow_sound (w' := { w with heap := w.heap.push (.cells ⟨us⟩ e) }) (sk := 0) (rest := []) (lo := 0) (hi := 0) (e := e) hh hn hf hv (by simp) (by simp) (by simp) (by simp)
  exact this

end Go.Ev
