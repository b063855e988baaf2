/- The operations that make memory, or write it. -/
import Derived.Test.YtcbhnjlbolafpabGreatDoorEvK
import Derived.Laws.BytesString
import Derived.Laws.Append
set_option linter.unusedSimpArgs false
set_option linter.unusedVariables false
namespace Go.Ev
section
variable {P : Program}

/-- a step that gives a value, and may turn memory -/
def MS (P : Program) (φ : Phi) (s : St) (w : World) (sem : Sem Value) (r : V) (s' : St) : Prop :=
  ∃ φ' w' u, sem.run P w = .ok u w' ∧ Rv φ' r u ∧ Rh φ' s' w' ∧ Ext φ s w φ' s' w'

theorem MS.same {φ : Phi} {s : St} {w : World} {sem : Sem Value} {r : V} (hh : Rh φ s w) (h : ∃ u, sem.run P w = .ok u w ∧ Rv φ r u) : MS P φ s w sem r s :=
  let ⟨u, h1, h2⟩ := h; ⟨φ, w, u, h1, h2, hh, Ext.refl _ _ _⟩

theorem cellsOfBytes_len : ∀ l : List UInt8, (cellsOfBytes l).length = l.length
  | [] => rfl
  | _ :: l => by simp [cellsOfBytes, cellsOfBytes_len l]
theorem cellsOfBytes_rv {φ : Phi} : ∀ l : List UInt8, RvL φ (cellsOfBytes l) (l.map fun b => .int .u8 b.toNat)
  | [] => .nil
  | _ :: l => .cons _ _ _ _ (.int _ _) (cellsOfBytes_rv l)

theorem lenOf_run {φ : Phi} {w : World} {x : V} {a : Value} {n : Nat} (hx : Rv φ x a) (h : lenOfV x = some n) : (Builtin.lenOf a).run P w = .ok n w := by
  cases x <;> simp [lenOfV] at h <;> subst h <;> cases hx <;> rfl

theorem firstCells_all {φ : Phi} {s : St} {w : World} (hh : Rh φ s w) {size n : Nat} {x : V} {a : Value} {cs : List V} (hx : Rv φ x a) (h : firstCellsV s size n x = some cs) :
    ∃ us, (∀ w' : World, w'.heap = w.heap → (Builtin.firstCells size n a).run P w' = .ok ⟨us⟩ w') ∧ RvL φ cs us := by
  cases x <;> simp only [firstCellsV] at h <;> try (cases h; done)
  · cases h
    cases hx
    refine ⟨_, fun w' _ => ?_, cellsOfBytes_rv _⟩
    simp only [Builtin.firstCells, Sem.run_pure]
    congr 1
    apply Array.ext'
    simp [ByteArray.data_extract]
  · simp only [St.cells, Option.bind_some'] at h
    obtain ⟨l, hl, h⟩ := h
    cases hx; rename_i L hL
    obtain ⟨c, e, fr, h1, h2⟩ := row_blk hh hL hl
    obtain ⟨us, g1, g2, _⟩ := run_row (P := P) h1 h2 _ h
    exact ⟨us, g1, g2⟩
  · rw [cond_some] at h
    obtain ⟨hn, h⟩ := h
    have := nat_beq_t hn; subst this
    cases h
    cases hx
    exact ⟨[], fun w' _ => by simp [Builtin.firstCells, loadCells, loadCellsFrom], .nil⟩
  · cases h; cases hx
    exact ⟨[], fun w' _ => rfl, .nil⟩
theorem firstCells_run {φ : Phi} {s : St} {w : World} (hh : Rh φ s w) {size n : Nat} {x : V} {a : Value} {cs : List V} (hx : Rv φ x a) (h : firstCellsV s size n x = some cs) :
    ∃ us, (Builtin.firstCells size n a).run P w = .ok ⟨us⟩ w ∧ RvL φ cs us :=
  let ⟨us, h1, h2⟩ := firstCells_all (P := P) hh hx h; ⟨us, h1 w rfl, h2⟩

theorem bytesOf_spec {φ : Phi} : ∀ {cs : List V} {us : List Value} {bs : List UInt8}, RvL φ cs us → bytesOfCells cs = some bs → ∃ ns : List Int, us = ns.map (Value.int .u8) ∧ bs = ns.map fun n => UInt8.ofNat n.toNat
  | _, _, bs, .nil, h => by simp [bytesOfCells] at h; subst h; exact ⟨[], rfl, rfl⟩
  | _, _, bs, .cons v u l m hv hl, h => by
    simp only [bytesOfCells, Option.bind_some', Option.map_some'] at h
    obtain ⟨b, hb, r, hr, rfl⟩ := h
    obtain ⟨ns, rfl, rfl⟩ := bytesOf_spec hl hr
    unfold byteOf at hb
    split at hb
    · rename_i n
      cases hb; cases hv
      exact ⟨n :: ns, rfl, rfl⟩
    · cases hb
theorem foldl_push : ∀ (ns : List Int) (s : ByteArray), ns.foldl (fun r n => r.push (UInt8.ofNat n.toNat)) s = ⟨⟨s.data.toList ++ ns.map fun n => UInt8.ofNat n.toNat⟩⟩
  | [], s => by simp
  | n :: ns, s => by
    rw [List.foldl_cons, foldl_push ns]
    simp

theorem isU8_some {d : Option TypeDesc} (h : isU8 d = true) : d = some (.int .u8) := by
  unfold isU8 at h
  split at h
  · rfl
  · cases h

theorem convert_sound {φ : Phi} {s s' : St} {w : World} (hh : Rh φ s w) (hf : Fresh φ s.next s'.next) {src dst : TypeId} {x r : V} {a : Value} (hx : Rv φ x a) (h : convertV P s src dst x = some (r, s')) :
    MS P φ s w (convert src dst a) r s' := by
  unfold convertV at h
  split at h
  · rename_i k k' n hs hd
    cases h; cases hx
    refine MS.same hh ⟨_, ?_, .int _ _⟩
    simp only [convert, Sem.run_bind, run_underlying hs, run_underlying hd, Result.andThen_ok, Conv.intToInt, Sem.run_pure]
  · rename_i d b hs hd
    cases h; cases hx
    refine MS.same hh ⟨_, ?_, .str _⟩
    simp only [convert, Sem.run_bind, run_underlying hs, run_underlying hd, Result.andThen_ok, Sem.run_pure]
  · rename_i d e b hs hd
    rw [cond_some] at h
    obtain ⟨hu, h⟩ := h
    have he := isU8_some hu
    obtain ⟨⟨nb, s1⟩, hn, h⟩ := Option.map_some'.1 h
    cases h
    cases hx
    -- what the machine does
    generalize hcap : Question.cut (.appendCap b.length 0 e) (w.tape w.drawn (.appendCap b.length 0 e)) = cap
    have hle : b.length ≤ cap := by rw [← hcap]; simp [Question.cut]
    let us : List Value := b.map fun c => .int .u8 c.toNat
    let rest : List Value := List.replicate (cap - b.length) (.int .u8 0)
    have hlen : (us ++ rest).length = cap := by simp [us, rest]; omega
    let w' : World := { w with drawn := w.drawn + 1, heap := w.heap.push (.cells ⟨us ++ rest⟩ e (cap, cap + 1)) }
    have hsz : (ByteArray.mk ⟨b⟩).size = b.length := rfl
    have hrun : (convert src dst (.string ⟨⟨b⟩⟩)).run P w = .ok (.slice (some ⟨w.heap.size, 0, none⟩) b.length cap) w' := by
      simp only [convert, Sem.run_bind, run_underlying hs, run_underlying hd, Result.andThen_ok, run_underlying he, Conv.stringToBytes, run_choose, Question.forced, Bool.false_eq_true, if_false, hsz, hcap, newRow, run_newObj, Sem.run_pure, markStringish, run_shape]
      have h1 : (ByteArray.mk ⟨b⟩).data.map (fun c => Value.int .u8 c.toNat) ++ Array.replicate (cap - b.length) (Value.int .u8 0) = ⟨us ++ rest⟩ := by
        apply Array.ext'
        simp [us, rest]
      rw [h1]
      have h2 : World.shape? { w with drawn := w.drawn + 1, heap := w.heap.push (.cells ⟨us ++ rest⟩ e) } w.heap.size = some (e, cap) := by
        simp [World.shape?]
        simp [us, rest]; omega
      simp only [h2]
      have hfz : World.freeze { w with drawn := w.drawn + 1, heap := w.heap.push (.cells ⟨us ++ rest⟩ e) } ⟨w.heap.size, cap, none⟩ 1 = w' := by
        simp only [World.freeze, w']
        rw [if_neg (by simp)]
        congr 1
        apply Array.ext (by simp)
        intro i h3 h4
        simp only [Array.getElem_modify, Array.getElem_push]
        by_cases hi : i < w.heap.size
        · simp [hi, show ¬ (w.heap.size = i) by omega]
        · have : w.heap.size = i := by simp at h4; omega
          simp [this]
      simp only [run_freeze, hfz, Result.andThen_ok]
    obtain ⟨g1, g2⟩ := newRow_sound (w' := w') (sk := cap - b.length) (us := us) (rest := rest) (lo := cap) (hi := cap + 1) (e := e) hh hn hf (cellsOfBytes_rv b) (by simp [rest]) rfl (by right; rw [← List.length_append, hlen]; exact Nat.le_refl _) (by simp)
    refine ⟨_, w', _, hrun, ?_, g1, g2⟩
    have := Rv.slice (φ := upd φ nb ⟨w.heap.size, 0, cap - b.length⟩) nb 0 b.length b.length true _ (upd_same _ _ _)
    simp only [if_true, Nat.zero_add] at this
    rw [show b.length + (cap - b.length) = cap by omega] at this
    exact this
  · rename_i e0 e b o l c sl hs hd
    rw [cond_some] at h
    obtain ⟨hc, h⟩ := h
    simp only [Bool.and_eq_true] at hc
    have he := isU8_some hc.1
    have hsd := nat_beq_t hc.2
    simp only [Option.bind_some', Option.map_some'] at h
    obtain ⟨y, hy, y', hy', h⟩ := h
    cases h
    cases y <;> simp [oldRow] at hy'
    rename_i cs fl esz
    subst hy'
    cases hx; rename_i L hL
    obtain ⟨c', e', lo, hi, h1, h2, h3, h4, h5⟩ := hh.blk b L _ hL hy
    have hshape : w.shape? L.blk = some (e', c'.size) := by simp [World.shape?, h1]
    have hlt : L.blk < w.heap.size := (Array.getElem?_eq_some_iff.1 h1).1
    let fr' : Nat × Nat := if lo == hi then (c'.size, c'.size + 1) else (min lo c'.size, max hi (c'.size + 1))
    have hw : ∀ B, (w.freeze ⟨L.blk, c'.size, none⟩ 1).heap[B]? = if B = L.blk then some (.cells c' e' fr') else w.heap[B]? := by
      intro B
      simp only [World.freeze]
      rw [if_neg (by simp)]
      simp only [Array.getElem?_modify]
      by_cases hB : B = L.blk
      · subst hB; simp [h1, fr']
      · rw [if_neg (fun e => hB e.symm), if_neg hB]
    obtain ⟨g1, g2⟩ := write_sound (w' := w.freeze ⟨L.blk, c'.size, none⟩ 1) (x' := .cells cs false esz) hh hL hy live_cells (by simp [World.freeze]) (fun B hB => by rw [hw, if_neg hB]) (by
      refine ⟨c', e', fr'.1, fr'.2, by rw [hw, if_pos rfl], h2, h3, ?_, fun h => by cases h⟩
      right
      simp only [fr']
      by_cases hlh : lo = hi
      · simp [hlh]
      · have : (lo == hi) = false := by simpa using hlh
        rw [this]
        simp only [Bool.false_eq_true, if_false]
        rcases h4 with h4 | h4
        · exact absurd h4 hlh
        · omega)
    refine ⟨φ, _, _, ?_, Rv.slice b o l c sl L hL, g1, g2⟩
    have hbs : (src == dst) = true := by rw [hsd]; simp
    simp only [convert, Sem.run_bind, run_underlying hs, run_underlying hd, Result.andThen_ok, run_underlying he, hbs, markStringish, run_shape, hshape, run_freeze, Sem.run_pure]
  · rename_i e hs hd _ _ _
    rw [cond_some] at h
    obtain ⟨hu, h⟩ := h
    have he := isU8_some hu
    simp only [Option.bind_some', Option.map_some'] at h
    obtain ⟨n, hn, cs, hcs, bs, hbs, h⟩ := h
    cases h
    refine MS.same hh ?_
    obtain ⟨us, g1, g2⟩ := firstCells_run (P := P) hh hx hcs
    obtain ⟨ns, rfl, rfl⟩ := bytesOf_spec g2 hbs
    refine ⟨.string ⟨⟨ns.map fun n => UInt8.ofNat n.toNat⟩⟩, ?_, .str _⟩
    cases hx <;> simp [lenOfV] at hn
    · rename_i b0 hno
      exact (hno b0 rfl).elim
    · subst hn
      rw [run_convert_bytes_string w src dst _ _ _ _ (by assumption) he (by assumption), run_bytesToString w _ _ _ ns (by simpa [Builtin.firstCells] using g1), foldl_push]
      simp
    · subst hn
      rw [run_convert_bytes_string w src dst _ _ _ _ (by assumption) he (by assumption), run_bytesToString w _ _ _ ns (by simpa [Builtin.firstCells] using g1), foldl_push]
      simp
    · subst hn
      simp only [Builtin.firstCells, Sem.run_pure] at g1
      have : ns = [] := by
        cases ns with
        | nil => rfl
        | cons n ns => simp at g1
      subst this
      rw [run_convert_bytes_string w src dst _ _ _ _ (by assumption) he (by assumption)]
      rfl
  · cases h
end
end Go.Ev
