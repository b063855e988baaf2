/- The evaluator's comparisons and operators. -/
import Derived.Test.YtcbhnjlbolafpabGreatDoorEvD
import Derived.Laws.StructEq
set_option linter.unusedSimpArgs false
set_option linter.unusedVariables false
namespace Go.Ev

theorem nat_beq (a b : Nat) : Nat.beq a b = (a == b) := by
  rw [Bool.eq_iff_iff, Nat.beq_eq]; simp
theorem nat_beq_t {a b : Nat} (h : Nat.beq a b = true) : a = b := Nat.eq_of_beq_eq_true h
theorem nat_beq_f {a b : Nat} (h : Nat.beq a b = false) : a ≠ b := by
  intro e; subst e; rw [Nat.beq_refl] at h; cases h
theorem nat_blt_t {a b : Nat} (h : Nat.blt a b = true) : a < b := by rw [Nat.blt_eq] at h; exact h
theorem nat_blt (a b : Nat) : Nat.blt a b = decide (a < b) := by
  rw [Bool.eq_iff_iff, Nat.blt_eq]; simp
theorem nat_ble_t {a b : Nat} (h : Nat.ble a b = true) : a ≤ b := Nat.le_of_ble_eq_true h

theorem kEq_t {a b : IntKind} (h : kEq a b = true) : a = b := by
  cases a <;> cases b <;> first | rfl | (exact absurd h (by decide))
theorem boolEq_eq (a b : Bool) : boolEq a b = (a == b) := by cases a <;> cases b <;> rfl
theorem intEq_eq (a b : Int) : intEq a b = (a == b) := by
  cases a <;> cases b <;> simp only [intEq] <;> rw [Bool.eq_iff_iff] <;> simp [Nat.beq_eq]
  omega
theorem intLt_eq (a b : Int) : intLt a b = decide (a < b) := by
  cases a <;> cases b <;> simp only [intLt] <;> rw [Bool.eq_iff_iff] <;> simp only [Nat.blt_eq, decide_eq_true_iff] <;> first | omega | (simp; omega) | simp
theorem u8_eq {a b : UInt8} : a.toNat = b.toNat ↔ a = b := ⟨UInt8.toNat_inj.1, fun h => by rw [h]⟩
theorem strEq_eq : ∀ (a b : List UInt8), strEq a b = (a == b)
  | [], [] => rfl
  | [], _ :: _ => rfl
  | _ :: _, [] => rfl
  | a :: l, b :: m => by
    have h : (a :: l == b :: m) = (a == b && l == m) := rfl
    rw [h, strEq, strEq_eq l m, nat_beq]
    by_cases e : a = b
    · subst e; simp
    · have h1 : (a.toNat == b.toNat) = false := by simp; exact fun hh => e (u8_eq.1 hh)
      have h2 : (a == b) = false := by simpa using e
      rw [h1, h2]; rfl
theorem strLt_eq : ∀ (a b : List UInt8), strLt a b = Op.bytesLess a b
  | _, [] => by simp [strLt, Op.bytesLess]
  | [], _ :: _ => by simp [strLt, Op.bytesLess]
  | a :: l, b :: m => by
    rw [strLt, Op.bytesLess, strLt_eq l m, nat_beq, nat_blt]
    by_cases h : a < b
    · have : a.toNat < b.toNat := UInt8.lt_iff_toNat_lt.1 h
      simp [h, this]
    · have h' : ¬ a.toNat < b.toNat := fun hh => h (UInt8.lt_iff_toNat_lt.2 hh)
      by_cases e : a = b
      · subst e; simp
      · have h1 : (a.toNat == b.toNat) = false := by simp; exact fun hh => e (u8_eq.1 hh)
        have h2 : (a == b) = false := by simpa using e
        simp [h, h', h1, h2]
theorem ba_toList (s : List UInt8) : (ByteArray.mk (Array.mk s)).toList = s := by rw [ByteArray.toList_eq]
theorem ba_beq (a b : List UInt8) : ((ByteArray.mk (Array.mk a)) == (ByteArray.mk (Array.mk b))) = (a == b) := by rw [beq_toListBytes, ba_toList, ba_toList]

section
variable {P : Program}

theorem run_eqFields {φ : Phi} {w : World} {d : Nat} {rec : TypeId → V → V → Option Bool}
    (hrec : ∀ t x y r a b, rec t x y = some r → Rv φ x a → Rv φ y b → (Op.equalIn d t a b).run P w = .ok r w) {xs ys : List V} {us vs : List Value}
    (hx : RvL φ xs us) (hy : RvL φ ys vs) : ∀ (fs : List Field) (r : Bool), eqFields P rec fs xs ys = some r → (Op.eqFields d ⟨us⟩ ⟨vs⟩ fs).run P w = .ok r w
  | [], r, h => by simp [eqFields] at h; subst h; simp [Op.eqFields]
  | f :: fs, r, h => by
    simp only [eqFields, cond_none_some, Option.bind_some'] at h
    obtain ⟨hn, a, ha, b, hb, e, he, h⟩ := h
    obtain ⟨u, hu, hR⟩ := part_sound (P := P) (w := w) hx ha
    obtain ⟨v, hv, hR'⟩ := part_sound (P := P) (w := w) hy hb
    have hne : f.name ≠ "_" := by simpa using hn
    simp only [Op.eqFields, Sem.run_ite, if_pos hne, Sem.run_bind, hu, hv, Result.andThen_ok, hrec _ _ _ _ _ _ he hR hR']
    cases e with
    | true => simp only [cond_true] at h; simp [run_eqFields hrec hx hy fs r h]
    | false => simp only [cond_false, Option.some.injEq] at h; subst h; simp

theorem basicEq_run {φ : Phi} {w : World} {t : TypeId} {u : TypeDesc} (ht : P.underlying t = some u) {x y : V} {a b : Value} {r : Bool}
    (hx : Rv φ x a) (hy : Rv φ y b) (h : basicEq u x y = some r) (d : Nat) : (Op.equalIn (d + 1) t a b).run P w = .ok r w := by
  unfold basicEq at h
  split at h
  · cases hx; cases hy; cases h
    simp [Op.equalIn, run_underlying ht, boolEq_eq]
  · rw [cond_some] at h
    obtain ⟨hk, h⟩ := h
    have hk' := kEq_t hk
    subst hk'
    cases h
    cases hx; cases hy
    simp [Op.equalIn, run_underlying ht, intEq_eq]
  · cases hx; cases hy; cases h
    simp [Op.equalIn, run_underlying ht, strEq_eq, ba_beq]
  · cases h

theorem basicEq_desc {u : TypeDesc} {x y : V} {r : Bool} (h : basicEq u x y = some r) : (match u with | .struct _ | .array _ _ => true | _ => false) = false := by
  cases u <;> first | rfl | (simp [basicEq] at h)

theorem run_forArr {w : World} {u : TypeDesc} {body : Nat → Option Bool × Unit → Sem (ForInStep (Option Bool × Unit))} : ∀ (xs ys : List V) (r : Bool) (k : Nat), allEq u xs ys = some r →
    (∀ (j : Nat) (x y : V) (q : Bool), xs[j]? = some x → ys[j]? = some y → basicEq u x y = some q →
      (body (k + j) (none, ())).run P w = .ok (if q then .yield (none, ()) else .done (some false, ())) w) →
    (forIn (List.range' k xs.length) ((none, ()) : Option Bool × Unit) body).run P w = .ok (if r then (none, ()) else (some false, ())) w
  | [], [], r, k, h, _ => by simp [allEq] at h; subst h; simp
  | [], _ :: _, r, k, h, _ => by simp [allEq] at h
  | _ :: _, [], r, k, h, _ => by simp [allEq] at h
  | x :: xs, y :: ys, r, k, h, hb => by
    simp only [allEq, Option.bind_some'] at h
    obtain ⟨q, hq, h⟩ := h
    have h0 := hb 0 x y q rfl rfl hq
    rw [Nat.add_zero] at h0
    cases q with
    | true =>
      simp only [cond_true] at h
      simp only [if_true] at h0
      have ih := run_forArr xs ys r (k + 1) h fun j x' y' q' hx hy hq' => by
        have := hb (j + 1) x' y' q' (by simpa using hx) (by simpa using hy) hq'
        rwa [show k + (j + 1) = k + 1 + j by omega] at this
      simp only [List.length_cons, List.range'_succ, List.forIn_cons, Sem.run_bind, h0, Result.andThen_ok, ih]
    | false =>
      simp only [cond_false, Option.some.injEq] at h
      subst h
      simp only [List.length_cons, List.range'_succ, List.forIn_cons, Sem.run_bind, h0, Result.andThen_ok]
      simp

theorem run_equalIn_array {w : World} {d : Nat} {t e : TypeId} {len n : Nat} {xs ys : Array Value} (ht : P.underlying t = some (.array len e)) (hn : szOf P e = some n) :
    (Op.equalIn (d + 1) t (.agg xs) (.agg ys)).run P w = ((forIn (List.range' 0 len) ((none, ()) : Option Bool × Unit) (fun i (__s : Option Bool × Unit) => do
            let a ← part e xs (i * n)
            let b ← part e ys (i * n)
            let q ← Op.equalIn d e a b
            if (!q) = true then pure (ForInStep.done (some false, ())) else pure (ForInStep.yield (none, ())))).run P w).andThen fun a w' =>
      Sem.run P (match a.fst with | some r => pure r | none => pure true) w' := by
  simp only [Op.equalIn, Sem.run_bind, run_underlying ht, Result.andThen_ok, run_sz hn, Std.Legacy.Range.forIn_eq_forIn_range', Std.Legacy.Range.size]
  simp only [Nat.sub_zero, Nat.add_sub_cancel, Nat.div_one]
  refine congr (congrArg Result.andThen ?_) (funext fun a => funext fun w' => ?_)
  · rfl
  · obtain ⟨a, b⟩ := a; cases a <;> rfl

theorem eqArray_run {φ : Phi} {w : World} {t e : TypeId} {len : Nat} (ht : P.underlying t = some (.array len e)) {xs ys : List V} {us vs : List Value} {r : Bool}
    (hx : RvL φ xs us) (hy : RvL φ ys vs) (h : eqArray P e len xs ys = some r) (d : Nat) : (Op.equalIn (d + 2) t (.agg ⟨us⟩) (.agg ⟨vs⟩)).run P w = .ok r w := by
  simp only [eqArray, Option.bind_some', cond_some, Bool.and_eq_true] at h
  obtain ⟨u, hu, n, hn, ⟨⟨h1, h2⟩, h3⟩, h⟩ := h
  have e1 := nat_beq_t h1
  have e2 := nat_beq_t h2
  have e3 := nat_beq_t h3
  subst e1; subst e2
  rw [run_equalIn_array ht hn]
  have key := run_forArr (P := P) (w := w) (u := u) (body := fun i (__s : Option Bool × Unit) => do
            let a ← part e ⟨us⟩ (i * 1)
            let b ← part e ⟨vs⟩ (i * 1)
            let q ← Op.equalIn (d + 1) e a b
            if (!q) = true then pure (ForInStep.done (some false, ())) else pure (ForInStep.yield (none, ()))) xs ys r 0 h (fun j x y q hxj hyj hq => by
      obtain ⟨a, ha, hR⟩ := hx.get j x hxj
      obtain ⟨b, hb, hR'⟩ := hy.get j y hyj
      have hg : agg? P e = some false := by
        unfold agg?
        rw [hu]
        cases u <;> first | rfl | (simp [basicEq] at hq)
      have pa : (part e ⟨us⟩ ((0 + j) * 1)).run P w = .ok a w := by
        simp only [part, Sem.run_bind, run_agg hg, Result.andThen_ok]; simp [ha]
      have pb : (part e ⟨vs⟩ ((0 + j) * 1)).run P w = .ok b w := by
        simp only [part, Sem.run_bind, run_agg hg, Result.andThen_ok]; simp [hb]
      simp only [Sem.run_bind, pa, pb, Result.andThen_ok, basicEq_run hu hR hR' hq d]
      cases q <;> simp)
  rw [key]
  cases r <;> simp

theorem eqPtr_run {φ : Phi} {s : St} {w : World} (hh : Rh φ s w) {t e : TypeId} (ht : P.underlying t = some (.pointer e)) {b o b' o' : Nat} {l l' : Loc} (hb : φ b = some l) (hb' : φ b' = some l') {r : Bool}
    (h : eqPtr P s e b o b' o' = some r) (d : Nat) :
    (Op.equalIn (d + 1) t (.pointer (some ⟨l.blk, l.dl + o, none⟩)) (.pointer (some ⟨l'.blk, l'.dl + o', none⟩))).run P w = .ok r w := by
  simp only [eqPtr, Option.bind_some', cond_none_some] at h
  obtain ⟨n, hn, hz, h⟩ := h
  have hz' : n ≠ 0 := nat_beq_f hz
  have hrun : (Op.equalIn (d + 1) t (.pointer (some ⟨l.blk, l.dl + o, none⟩)) (.pointer (some ⟨l'.blk, l'.dl + o', none⟩))).run P w =
      (sameAddr ⟨l.blk, l.dl + o, none⟩ ⟨l'.blk, l'.dl + o', none⟩).run P w := by
    simp only [Op.equalIn, Sem.run_bind, run_underlying ht, Result.andThen_ok, run_sz hn]
    rw [if_pos hz']
  rw [hrun]
  cases hbb : Nat.beq b b' with
  | true =>
    have e := nat_beq_t hbb
    subst e
    rw [hb] at hb'; cases hb'
    rw [hbb] at h
    simp only [cond_true, Option.some.injEq] at h
    subst h
    have hq : ((⟨l.blk, l.dl + o, none⟩ : Addr) == ⟨l.blk, l.dl + o', none⟩) = Nat.beq o o' := by
      rw [Bool.eq_iff_iff]; simp [Nat.beq_eq]
    simp [sameAddr, hq]
  | false =>
    have hne := nat_beq_f hbb
    rw [hbb] at h
    simp only [cond_false, cond_some, Bool.and_eq_true] at h
    obtain ⟨⟨f1, f2⟩, h⟩ := h
    cases h
    have fr : ∀ {c : Nat} {k : Loc}, φ c = some k → freshRow (s.get c) = true → ∃ x, s.get c = some x ∧ x.live ∧ ∃ cs e, w.heap[k.blk]? = some (.cells cs e (0, 0)) := by
      intro c k hc hf
      cases hx : s.get c with
      | none => rw [hx] at hf; simp [freshRow] at hf
      | some x =>
        rw [hx] at hf
        cases x <;> simp [freshRow] at hf
        subst hf
        obtain ⟨cs, e, lo, hi, g1, _, _, _, g5⟩ := hh.blk c k _ hc hx
        obtain ⟨rfl, rfl, _, _⟩ := g5 rfl
        exact ⟨_, rfl, live_cells, cs, e, g1⟩
    obtain ⟨x, hx, hxl, cs, e1, g1⟩ := fr hb f1
    obtain ⟨x', hx', hxl', cs', e2, g2⟩ := fr hb' f2
    have hblk : l.blk ≠ l'.blk := fun e => hne (hh.inj b b' l l' x x' hb hb' hx hx' hxl hxl' e)
    have s1 : ∀ o, (stringish ⟨l.blk, o, none⟩).run P w = .ok false w := fun o => by
      simp [stringish, frozen?_of g1, World.shape?, g1]
    have s2 : ∀ o, (stringish ⟨l'.blk, o, none⟩).run P w = .ok false w := fun o => by
      simp [stringish, frozen?_of g2, World.shape?, g2]
    have v1 : ∀ o, (noView ⟨l.blk, o, none⟩).run P w = .ok () w := fun o => by
      simp [noView, viewAt, World.shape?, g1]
    have v2 : ∀ o, (noView ⟨l'.blk, o, none⟩).run P w = .ok () w := fun o => by
      simp [noView, viewAt, World.shape?, g2]
    have hmb : ∀ o o', (mayBeOne ⟨l.blk, o, none⟩ ⟨l'.blk, o', none⟩).run P w = .ok false w := fun o o' => by
      simp [mayBeOne, s1, s2]
    simp [sameAddr, hblk, frozen?_of g1, frozen?_of g2, v1, v2, hmb]
end
end Go.Ev
