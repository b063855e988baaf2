/- append, the other ways; copy, clear. -/
import Derived.Test.YtcbhnjlbolafpabGreatDoorEvN
set_option linter.unusedSimpArgs false
set_option linter.unusedVariables false
namespace Go.Ev
section
variable {P : Program}

set_option maxHeartbeats 4000000 in
theorem append_run_z {w : World} {ts : Array TypeId} {ty t0 t1 e : TypeId} {size n : Nat} {i : TypeInfo} {uz : Value} {k k' : IntKind}
    (ht0 : ts[0]? = some t0) (ht1 : ts[1]? = some t1) (hu0 : P.underlying t0 = some (.slice e)) (hu1 : P.underlying t1 = some (.int k'))
    (hn : szOf P e = some size) (hi : P.info? e = some i) (hz : ∀ w' : World, (zeroValue e).run P w' = .ok uz w') (hbytes : i.bytes ≤ 1000000)
    (hn65 : n ≤ 65536) (base : Option Addr) (len cap : Nat) (hneed : len + n ≤ 1000000) :
      (len + n ≤ cap → (Builtin.append_ ts ty #[.slice base len cap, .int k (Int.ofNat n)]).run P w = (do
        if let some a := base then storeCells (a.add (len * size)) (if n * size = 0 then (#[] : Array Value) else Builtin.zeroCells uz.cells n).toList
        pure (.slice base (len + n) cap) : Sem Value).run P w) ∧
      (cap < len + n → ∀ old : List Value, (∀ w' : World, w'.heap = w.heap → (Builtin.firstCells size len (.slice base len cap)).run P w' = .ok ⟨old⟩ w') →
        ∃ newCap w1, len + n ≤ newCap ∧ w1.heap = w.heap.push (.cells (⟨old⟩ ++ (if n * size = 0 then (#[] : Array Value) else Builtin.zeroCells uz.cells n) ++ Builtin.zeroCells uz.cells (newCap - (len + n))) e (0, 0)) ∧ Same w w1 ∧
          (Builtin.append_ ts ty #[.slice base len cap, .int k (Int.ofNat n)]).run P w = .ok (.slice (some ⟨w.heap.size, 0, none⟩) (len + n) newCap) w1) := by
  have h0 : (#[Value.slice base len cap, .int k (Int.ofNat n)] : Array Value)[0]? = some (.slice base len cap) := rfl
  have h1 : (#[Value.slice base len cap, .int k (Int.ofNat n)] : Array Value)[1]? = some (.int k (Int.ofNat n)) := rfl
  have hwr := wrap_small n (by omega)
  have hneg : ¬ ((n : Int) < 0) := by omega
  have hbig : ¬ ((n : Int) * (i.bytes : Int) > 2 ^ 48) := by
    have : n * i.bytes ≤ 65536 * 1000000 := Nat.mul_le_mul hn65 hbytes
    have h2 : (n : Int) * (i.bytes : Int) ≤ 65536000000 := by
      rw [← Int.natCast_mul]; exact Int.ofNat_le.2 this
    have h48 : (2 : Int) ^ 48 = 281474976710656 := by rfl
    rw [h48]; omega
  have happ : ∀ w' : World, (if n * size = 0 then pure #[] else (zeroValue e).bind fun z => pure (Builtin.zeroCells z.cells n) : Sem (Array Value)).run P w' = .ok (if n * size = 0 then (#[] : Array Value) else Builtin.zeroCells uz.cells n) w' := by
    intro w'
    by_cases h : n * size = 0
    · simp [h]
    · rw [if_neg h, if_neg h]
      have := Sem.run_bind P w' (zeroValue e) (fun z => pure (Builtin.zeroCells z.cells n))
      show Sem.run P (zeroValue e >>= fun z => pure (Builtin.zeroCells z.cells n)) w' = _
      rw [this, hz]; rfl
  refine ⟨fun hle => ?_, fun hlt old hold => ?_⟩
  · simp only [Builtin.append_, ht0, ht1, h0, h1, Sem.run_bind, run_underlying hu0, run_underlying hu1, Result.andThen_ok, run_sz hn, Sem.run_pure, Bool.false_eq_true, if_false, if_true, Sem.run_ite, asInt, asIntOf, hwr, if_neg hneg, run_inf hi, if_neg hbig, Int.toNat_natCast, if_pos hle, Bool.not_true]
    by_cases h : n * size = 0
    · simp only [if_pos h, Sem.run_pure, Result.andThen_ok]
      cases base <;> rfl
    · simp only [if_neg h, Sem.run_bind, hz, Sem.run_pure, Result.andThen_ok]
      cases base <;> rfl
  · let q : Question := .appendCap (len + n) cap e
    let nc := q.cut (w.tape w.drawn q)
    have hnc : len + n ≤ nc := by simp [nc, q, Question.cut]
    let w1 : World := { w with drawn := w.drawn + 1 }
    have ho := hold w1 rfl
    refine ⟨nc, { w1 with heap := w1.heap.push (.cells (⟨old⟩ ++ (if n * size = 0 then (#[] : Array Value) else Builtin.zeroCells uz.cells n) ++ Builtin.zeroCells uz.cells (nc - (len + n))) e (0, 0)) }, hnc, rfl, ⟨rfl, rfl, rfl⟩, ?_⟩
    have hnle : ¬ (len + n ≤ cap) := by omega
    have hov : ¬ (((len + n : Nat) : Int) > IntKind.i64.max ∧ (True ∨ i.bytes = 0)) := fun h => need_small hneed h.1
    have hns := nextcap_small (bytes := i.bytes) hlt hneed hbytes
    have hch : (choose q).run P w = .ok nc w1 := by simp [run_choose, q, Question.forced, nc, w1]
    simp only [Builtin.append_, ht0, ht1, h0, h1, Sem.run_bind, run_underlying hu0, run_underlying hu1, Result.andThen_ok, run_sz hn, Sem.run_pure, Bool.false_eq_true, if_false, if_true, Sem.run_ite, asInt, asIntOf, hwr, if_neg hneg, run_inf hi, if_neg hbig, Int.toNat_natCast, Bool.not_true, if_neg hnle, if_neg hov, if_neg hns]
    simp only [show Question.appendCap (len + n) cap e = q from rfl, hch, Result.andThen_ok, run_inf hi, run_askRoom, ho, newRow, Sem.run_bind, run_newObj, Sem.run_pure]
    by_cases h : n * size = 0
    · simp only [if_pos h, Sem.run_pure, Result.andThen_ok, hz]
      rfl
    · simp only [if_neg h, Sem.run_bind, hz, Sem.run_pure, Result.andThen_ok]
      rfl

/-- what append does, whatever is appended -/
theorem append_run {φ : Phi} {s : St} {w : World} (hh : Rh φ s w) {ts : Array TypeId} {ty e : TypeId} {size n : Nat} {i : TypeInfo} {z : List V} {y : V} {b : Value} {new : List V}
    (hy : Rv φ y b) (he : elemD (typeAt P ts 0) = some e) (hn : szOf P e = some size) (hi : P.info? e = some i) (hz : zeroOf P e = some z) (h1 : (typeAt P ts 1).isSome = true)
    (hnew : newCells P s e size (isInt (typeAt P ts 1)) y = some (n, new)) (hbytes : i.bytes ≤ 1000000) (hzl : z.length = size) (base : Option Addr) (len cap : Nat) (hneed : len + n ≤ 1000000) :
    ∃ us, RvL φ new us ∧
      (len + n ≤ cap → (Builtin.append_ ts ty #[.slice base len cap, b]).run P w = (do
        if let some a := base then storeCells (a.add (len * size)) us
        pure (.slice base (len + n) cap) : Sem Value).run P w) ∧
      (cap < len + n → ∀ old : List Value, (∀ w' : World, w'.heap = w.heap → (Builtin.firstCells size len (.slice base len cap)).run P w' = .ok ⟨old⟩ w') →
        ∃ newCap rest w1, len + n ≤ newCap ∧ rest.length = (newCap - (len + n)) * size ∧ w1.heap = w.heap.push (.cells ⟨(old ++ us) ++ rest⟩ e (0, 0)) ∧ Same w w1 ∧
          (Builtin.append_ ts ty #[.slice base len cap, b]).run P w = .ok (.slice (some ⟨w.heap.size, 0, none⟩) (len + n) newCap) w1) := by
  obtain ⟨t0, ht0, hu0⟩ := typeAt_some (elemD_some he)
  obtain ⟨d1, hd1⟩ := Option.isSome_iff_exists.1 h1
  obtain ⟨t1, ht1, hu1⟩ := typeAt_some hd1
  obtain ⟨uz, hz1, hz2⟩ := zeroOf_run (φ := φ) hz w
  have hz1' : ∀ w' : World, (zeroValue e).run P w' = .ok uz w' := fun w' => by
    unfold zeroOf zeroV at hz
    obtain ⟨v, hv, _⟩ := Option.map_some'.1 hz
    obtain ⟨i', hi', hv⟩ := Option.bind_some'.1 hv
    obtain ⟨u, hu, _⟩ := Option.bind_some'.1 hv
    have g : ∀ w'' : World, (zeroValue e).run P w'' = .ok u w'' := fun w'' => by simp [zeroValue, typeInfo, hi', hu]
    have := g w; rw [hz1] at this; cases this; exact g w'
  have huz : uz.cells.toList.length = size := by rw [← hz2.length]; exact hzl
  have hrest : ∀ m : Nat, ∃ rest : List Value, Builtin.zeroCells uz.cells m = ⟨rest⟩ ∧ rest.length = m * size := fun m => by
    obtain ⟨r, h1, _, h3⟩ := zeroCells_eq hz2 m
    exact ⟨r, h1, by rw [h3, huz]⟩
  rw [hd1] at hnew
  cases hint : isInt (some d1) with
  | true =>
    rw [hint] at hnew
    have : ∃ k', d1 = .int k' := by cases d1 <;> simp [isInt] at hint; exact ⟨_, rfl⟩
    obtain ⟨k', rfl⟩ := this
    simp only [newCells, cond_true, Option.bind_some', cond_some, Bool.and_eq_true] at hnew
    obtain ⟨m, hm, z', hz', ⟨hle, hzl'⟩, hnew⟩ := hnew
    cases hnew
    rw [hz] at hz'; cases hz'
    obtain ⟨k, rfl⟩ := natOf_some hm
    cases hy
    have hn65 : n ≤ 65536 := nat_ble_t hle
    obtain ⟨r, hr1, hr2, hr3⟩ := zeroCells_eq hz2 n
    have hif : (if n * size = 0 then (#[] : Array Value) else Builtin.zeroCells uz.cells n) = ⟨r⟩ := by
      by_cases h : n * size = 0
      · rw [if_pos h]
        have : r = [] := List.length_eq_zero_iff.1 (by rw [hr3, huz]; exact h)
        rw [this]
      · rw [if_neg h]; exact hr1
    obtain ⟨g1, g2⟩ := append_run_z (P := P) (w := w) (ty := ty) (k := k) ht0 ht1 hu0 hu1 hn hi hz1' hbytes hn65 base len cap hneed
    rw [hif] at g1 g2
    refine ⟨r, hr2, g1, fun hlt old hold => ?_⟩
    obtain ⟨nc, w1, a1, a2, a4, a3⟩ := g2 hlt old hold
    obtain ⟨rest, b1, b2⟩ := hrest (nc - (len + n))
    refine ⟨nc, rest, w1, a1, b2, ?_, a4, a3⟩
    rw [a2, b1]; congr 2; apply Array.ext'; simp
  | false =>
    rw [hint] at hnew
    simp only [newCells, cond_false, Option.bind_some', Option.map_some'] at hnew
    obtain ⟨m, hm, cs, hcs, hnew⟩ := hnew
    cases hnew
    obtain ⟨us, f1, f2⟩ := firstCells_all (P := P) hh hy hcs
    obtain ⟨g1, g2⟩ := append_run_no (P := P) (w := w) (ty := ty) (b := b) ht0 ht1 hu0 hu1 hint hn hi hz1' hbytes (lenOf_run hy hm) f1 base len cap hneed
    refine ⟨us, f2, g1, fun hlt old hold => ?_⟩
    obtain ⟨nc, w1, a1, a2, a4, a3⟩ := g2 hlt old hold
    obtain ⟨rest, b1, b2⟩ := hrest (nc - (len + n))
    refine ⟨nc, rest, w1, a1, b2, ?_, a4, a3⟩
    rw [a2, b1]; congr 2; apply Array.ext'; simp

/-- a new row behind a growing append -/
theorem grown {φ : Phi} {s s' : St} {w w1 : World} {cs : List V} {size need nc b : Nat} {us rest : List Value} {e : TypeId} (hh : Rh φ s w) (hn : s.newRow cs false size = some (b, s')) (hf : Fresh φ s.next s'.next)
    (hv : RvL φ cs us) (hnc : need ≤ nc) (hr : rest.length = (nc - need) * size) (hw : w1.heap = w.heap.push (.cells ⟨us ++ rest⟩ e (0, 0))) (sm : Same w w1 := by first | exact ⟨rfl, rfl, rfl⟩ | assumption) :
    ∃ φ', Rv φ' (.slice b 0 need need true) (.slice (some ⟨w.heap.size, 0, none⟩) need nc) ∧ Rh φ' s' w1 ∧ Ext φ s w φ' s' w1 := by
  obtain ⟨g1, g2⟩ := newRow_sound (w' := w1) (sk := nc - need) (lo := 0) (hi := 0) hh hn hf hv (by rw [hr]; exact Nat.le_refl _) hw (.inl rfl) (by simp)
  refine ⟨_, ?_, g1, g2⟩
  have := Rv.slice (φ := upd φ b ⟨w.heap.size, 0, nc - need⟩) b 0 need need true _ (upd_same _ _ _)
  simp only [if_true, Nat.zero_add] at this
  rw [show need + (nc - need) = nc by omega] at this
  exact this

/-- a row that is appended to in its place -/
theorem taken {φ : Phi} {s s' : St} {w : World} {cs : List V} {l : Loc} {b b' o n size len : Nat} {old new : List V} {us : List Value} {fl : Bool} {esz : Nat} (hh : Rh φ s w) (hb : φ b = some l) (hx : s.get b = some (.cells cs fl esz))
    (hn : (s.set b .dead).newRow (old ++ new) false size = some (b', s')) (hf : Fresh φ s.next s'.next) (hv : RvL φ new us) (hold : takeN (len * size) (cs.drop o) = some old) (hnl : new.length = n * size)
    (hlen : o + len * size ≤ cs.length) (cap : Nat) (hcap : o + cap * size = cs.length) (hesz : esz = size) (hroom : len + n ≤ cap + l.sk) :
    ∃ w', (storeCells ⟨l.blk, l.dl + (o + len * size), none⟩ us).run P w = .ok () w' ∧ ∃ φ', φ' b' = some ⟨l.blk, l.dl + o, cap + l.sk - (len + n)⟩ ∧ Rh φ' s' w' ∧ Ext φ s w φ' s' w' := by
  subst hesz
  obtain ⟨c, e, lo, hi, h1, h2, h3, h4, h5⟩ := hh.blk b l _ hb hx
  have hul := hv.length
  have hsum : (len + n) * esz = len * esz + n * esz := Nat.add_mul _ _ _
  have hsum2 : (cap + l.sk) * esz = cap * esz + l.sk * esz := Nat.add_mul _ _ _
  have hmul : (len + n) * esz ≤ (cap + l.sk) * esz := Nat.mul_le_mul_right _ hroom
  have hone : ∀ u ∈ us, u.oneCell' = true := by
    unfold St.newRow at hn
    rw [cond_some] at hn
    intro u hu
    obtain ⟨i, hi, rfl⟩ := List.getElem_of_mem hu
    obtain ⟨v, hv', hR⟩ := hv.get' i _ (List.getElem?_eq_getElem hi)
    exact one_cell hR (allOne_spec hn.1 v (by simp [List.mem_of_getElem? hv']))
  obtain ⟨w', c', r1, r2, r3, r4, r5, r6, r7⟩ := run_storeCells (P := P) (off := l.dl + (o + len * esz)) us 0 c w h1 (by omega) (fun j hj => by rcases h4 with h4 | h4 <;> omega) hone
  have hn' := hn
  unfold St.newRow at hn'
  rw [cond_some] at hn'
  have hspec := St.new_spec hn'.2
  have hle : PLe φ (upd φ b' ⟨l.blk, l.dl + o, cap + l.sk - (len + n)⟩) := upd_le (hf _ (by rw [hspec.1]; exact Nat.le_refl _) (by rw [hspec.1, hspec.2.1]; omega))
  obtain ⟨ho1, ho2⟩ := takeN_spec hold
  have hol : old.length = len * esz := by rw [ho1]; simp; simp at ho2; omega
  obtain ⟨g1, g2⟩ := take_sound (l' := ⟨l.blk, l.dl + o, cap + l.sk - (len + n)⟩) (w' := w') hh hb hx live_cells hn'.2 hf rfl r2 r3 (by
    refine ⟨c', e, lo, hi, r4, ?_, ?_, by rw [r5]; exact h4, fun h => by cases h⟩
    · intro i v hi
      refine ⟨allOne_spec hn'.1 v (List.mem_of_getElem? hi), ?_⟩
      show ∃ u, c'[l.dl + o + i]? = some u ∧ _
      rw [r6]
      by_cases hlt : i < len * esz
      · rw [List.getElem?_append_left (by omega)] at hi
        rw [if_neg (by omega)]
        have : cs[o + i]? = some v := by
          rw [ho1, List.getElem?_take, if_pos hlt, List.getElem?_drop] at hi; exact hi
        obtain ⟨_, u, hu, hR⟩ := h2 (o + i) v this
        exact ⟨u, by rw [Nat.add_assoc]; exact hu, hR.mono hle⟩
      · rw [List.getElem?_append_right (by omega), hol] at hi
        obtain ⟨u, hu, hR⟩ := hv.get _ _ hi
        have hil : i - len * esz < us.length := (List.getElem?_eq_some_iff.1 hu).1
        rw [if_pos (by omega), show l.dl + o + i - (l.dl + (o + len * esz) + 0) = i - len * esz by omega]
        exact ⟨u, hu, hR.mono hle⟩
    · show l.dl + o + (old ++ new).length + (cap + l.sk - (len + n)) * esz ≤ c'.size
      rw [r5, List.length_append, hol, hnl]
      have : (cap + l.sk - (len + n)) * esz = (cap + l.sk) * esz - (len + n) * esz := Nat.sub_mul _ _ _
      omega)
  exact ⟨w', r1, _, upd_same _ _ _, g1, g2⟩
end
end Go.Ev
