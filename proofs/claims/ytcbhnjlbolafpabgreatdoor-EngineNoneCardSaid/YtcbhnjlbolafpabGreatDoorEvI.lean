/- Maps. -/
import Derived.Test.YtcbhnjlbolafpabGreatDoorEvH
set_option linter.unusedSimpArgs false
set_option linter.unusedVariables false
namespace Go.Ev
section
variable {P : Program}

theorem keyEq_run {φ : Phi} {w : World} {kt : TypeId} {x y : V} {a b : Value} {q : Bool} (h : keyEq P kt x y = some q) (hx : Rv φ x a) (hy : Rv φ y b) : (Op.equal kt a b).run P w = .ok q w := by
  unfold keyEq at h
  split at h
  · rename_i hu; cases hx; cases hy; cases h
    exact run_equalIn_bool' w 9999 kt _ _ hu |>.trans (by rw [boolEq_eq])
  · rename_i hu; cases hx; cases hy
    rw [cond_some] at h
    obtain ⟨hk, h⟩ := h
    cases h
    have e := kEq_t hk; subst e
    exact (run_equalIn_int w 9999 kt _ _ _ _ hu).trans (by rw [intEq_eq])
  · rename_i hu; cases hx; cases hy; cases h
    exact (run_equalIn_string w 9999 kt _ _ hu).trans (by rw [strEq_eq, ba_toList, ba_toList])
  · rename_i hu; cases hx; rename_i us hus; cases hy; rename_i vs hvs
    exact eqArray_run hu hus hvs h 9998
  · cases h

/-- keys that are equal are one -/
theorem allEq_true {u : TypeDesc} : ∀ {xs ys : List V}, allEq u xs ys = some true → xs = ys
  | [], [], _ => rfl
  | [], _ :: _, h => by simp [allEq] at h
  | _ :: _, [], h => by simp [allEq] at h
  | x :: xs, y :: ys, h => by
    simp only [allEq, Option.bind_some'] at h
    obtain ⟨q, hq, h⟩ := h
    cases q with
    | false => simp at h
    | true =>
      simp only [cond_true] at h
      have e : x = y := by
        unfold basicEq at hq
        split at hq
        · simp only [Option.some.injEq, boolEq_eq, beq_iff_eq] at hq; rw [hq]
        · rw [cond_some] at hq
          simp only [Option.some.injEq, intEq_eq, beq_iff_eq] at hq
          rw [kEq_t hq.1, hq.2]
        · simp only [Option.some.injEq, strEq_eq, beq_iff_eq] at hq; rw [hq]
        · cases hq
      rw [e, allEq_true h]
theorem keyEq_true {kt : TypeId} {x y : V} (h : keyEq P kt x y = some true) : x = y := by
  unfold keyEq at h
  split at h
  · simp only [Option.some.injEq, boolEq_eq, beq_iff_eq] at h; rw [h]
  · rw [cond_some] at h
    simp only [Option.some.injEq, intEq_eq, beq_iff_eq] at h
    rw [kEq_t h.1, h.2]
  · simp only [Option.some.injEq, strEq_eq, beq_iff_eq] at h; rw [h]
  · simp only [eqArray, Option.bind_some', cond_some] at h
    obtain ⟨_, _, _, _, _, h⟩ := h
    rw [allEq_true h]
  · cases h

/-- the one entry of a key, in any order of the entries -/
theorem findK_spec {kt : TypeId} {k : V} : ∀ {es : List (V × V)} {r : Option V}, findK P kt k es = some r →
    (∀ e ∈ es, ∃ q, keyEq P kt k e.1 = some q) ∧
    match r with
    | none => ∀ e ∈ es, isKey P kt k e = false
    | some v => ∃ l₁ a l₂, es = l₁ ++ a :: l₂ ∧ isKey P kt k a = true ∧ a.2 = v ∧ (∀ e ∈ l₁, isKey P kt k e = false) ∧ (∀ e ∈ l₂, isKey P kt k e = false)
  | [], r, h => by simp [findK] at h; subst h; simp
  | e :: l, r, h => by
    simp only [findK, Option.bind_some'] at h
    obtain ⟨q, hq, r', hr', h⟩ := h
    obtain ⟨h1, h2⟩ := findK_spec hr'
    refine ⟨fun x hx => ?_, ?_⟩
    · cases hx with
      | head => exact ⟨q, hq⟩
      | tail _ hx => exact h1 x hx
    · cases q with
      | true =>
        simp only [oneOf, cond_true, cond_none_some, Option.some.injEq] at h
        obtain ⟨hs, rfl⟩ := h
        have := isNone_of hs; subst this
        exact ⟨[], e, l, rfl, by simp [isKey, hq], rfl, by simp, h2⟩
      | false =>
        simp only [oneOf, cond_false, Option.some.injEq] at h
        subst h
        have hf : isKey P kt k e = false := by simp [isKey, hq]
        cases r' with
        | none =>
          intro x hx
          cases hx with
          | head => exact hf
          | tail _ hx => exact h2 x hx
        | some v =>
          obtain ⟨l₁, a, l₂, rfl, g1, g2, g3, g4⟩ := h2
          refine ⟨e :: l₁, a, l₂, rfl, g1, g2, fun x hx => ?_, g4⟩
          cases hx with
          | head => exact hf
          | tail _ hx => exact g3 x hx
/-- entries as they lie in the machine, and the one of a key -/
theorem REnts.split {φ : Phi} : ∀ {l₁ : List (V × V)} {a : V × V} {l₂ : List (V × V)} {en : List MapEntry}, REnts φ (l₁ ++ a :: l₂) en →
    ∃ e₁ e e₂, en = e₁ ++ e :: e₂ ∧ REnts φ l₁ e₁ ∧ REnt φ a e ∧ REnts φ l₂ e₂
  | [], a, l₂, _, .cons _ e _ m h1 h2 => ⟨[], e, m, rfl, .nil, h1, h2⟩
  | x :: l₁, a, l₂, _, .cons _ e _ m h1 h2 => by
    obtain ⟨e₁, e', e₂, rfl, g1, g2, g3⟩ := REnts.split h2
    exact ⟨e :: e₁, e', e₂, rfl, .cons _ _ _ _ h1 g1, g2, g3⟩
theorem REnts.append {φ : Phi} : ∀ {l : List (V × V)} {m : List MapEntry}, REnts φ l m → ∀ {l' : List (V × V)} {m' : List MapEntry}, REnts φ l' m' → REnts φ (l ++ l') (m ++ m')
  | _, _, .nil, _, _, h => h
  | _, _, .cons a e l m h1 h2, _, _, h => .cons _ _ _ _ h1 (h2.append h)
theorem REnts.length {φ : Phi} : ∀ {l : List (V × V)} {m : List MapEntry}, REnts φ l m → l.length = m.length
  | _, _, .nil => rfl
  | _, _, .cons a e l m h1 h2 => by simp [h2.length]

theorem findAsking_run {φ : Phi} {w : World} {kt : TypeId} {k : V} {ku : Value} (hk : Rv φ k ku) : ∀ {l : List (V × V)} {en : List MapEntry} (i : Nat), REnts φ l en →
    (∀ e ∈ l, ∃ q, keyEq P kt k e.1 = some q) → (∀ e ∈ l, isKey P kt k e = false) → ∀ (rest : List MapEntry), (Instr.findAsking kt ku (en ++ rest) i).run P w = (Instr.findAsking kt ku rest (i + en.length)).run P w
  | _, _, i, .nil, _, _, rest => by simp
  | _, _, i, .cons a e l m h1 h2, hc, hf, rest => by
    obtain ⟨q, hq⟩ := hc a (by simp)
    have hkk := hf a (by simp)
    simp only [isKey, hq, Option.getD_some] at hkk
    subst hkk
    have hrun := keyEq_run (w := w) hq hk h1.1
    have ih := findAsking_run (w := w) hk (i + 1) h2 (fun x hx => hc x (by simp [hx])) (fun x hx => hf x (by simp [hx])) rest
    simp only [List.cons_append, Instr.findAsking, Sem.run_bind, hrun, Result.andThen_ok, Bool.false_eq_true, if_false, ih, List.length_cons]
    congr 2; omega

/-- 'sameNow' of two values that are compared at once -/
theorem sameNow_eq {φ : Phi} {kt : TypeId} {u : TypeDesc} (hu : P.underlying kt = some u) {x y : V} {a b : Value} {q : Bool} (h : keyEq P kt x y = some q) (hx : Rv φ x a) (hy : Rv φ y b) :
    (∃ len e, u = .array len e) ∨ Instr.sameNow u a b = some q := by
  unfold keyEq at h
  rw [hu] at h
  split at h
  · rename_i e; cases e; cases hx; cases hy; cases h; right; simp [Instr.sameNow, boolEq_eq]
  · rename_i e; cases e; cases hx; cases hy
    rw [cond_some] at h
    obtain ⟨hk, h⟩ := h
    have := kEq_t hk; subst this; cases h
    right; simp [Instr.sameNow, intEq_eq]
  · rename_i e; cases e; cases hx; cases hy; cases h; right; simp [Instr.sameNow, strEq_eq, ba_beq]
  · rename_i len e xs ys he; left; exact ⟨len, e, by simpa using he⟩
  · cases h

theorem findNow_run {φ : Phi} {kt : TypeId} {u : TypeDesc} (hu : P.underlying kt = some u) (hn : ¬ ∃ len e, u = .array len e) {k : V} {ku : Value} (hk : Rv φ k ku) : ∀ {l : List (V × V)} {en : List MapEntry} (i : Nat), REnts φ l en →
    (∀ e ∈ l, ∃ q, keyEq P kt k e.1 = some q) → (∀ e ∈ l, isKey P kt k e = false) → ∀ (rest : List MapEntry), Instr.findNow u ku (en ++ rest) i = Instr.findNow u ku rest (i + en.length)
  | _, _, i, .nil, _, _, rest => by simp
  | _, _, i, .cons a e l m h1 h2, hc, hf, rest => by
    obtain ⟨q, hq⟩ := hc a (by simp)
    have hkk := hf a (by simp)
    simp only [isKey, hq, Option.getD_some] at hkk
    subst hkk
    have hs := (sameNow_eq hu hq hk h1.1).resolve_left hn
    have ih := findNow_run hu hn hk (i + 1) h2 (fun x hx => hc x (by simp [hx])) (fun x hx => hf x (by simp [hx])) rest
    simp only [List.cons_append, Instr.findNow, hs, ih, List.length_cons]
    congr 1; omega

theorem findKey_run {φ : Phi} {w : World} {kt : TypeId} {u : TypeDesc} (hu : P.underlying kt = some u) {k : V} {ku : Value} (hk : Rv φ k ku) {es : List (V × V)} {en : List MapEntry} {r : Option V}
    (hr : RMap φ es en) (h : findK P kt k es = some r) :
    match r with
    | none => (Instr.findKey kt ku en).run P w = .ok none w
    | some v => ∃ l₁ a l₂ e₁ e e₂, (l₁ ++ a :: l₂).Perm es ∧ en = e₁ ++ e :: e₂ ∧ REnts φ l₁ e₁ ∧ REnt φ a e ∧ REnts φ l₂ e₂ ∧ a.1 = k ∧ a.2 = v ∧ isKey P kt k a = true ∧
        (∀ e ∈ l₁, isKey P kt k e = false) ∧ (∀ e ∈ l₂, isKey P kt k e = false) ∧ (Instr.findKey kt ku en).run P w = .ok (some (e₁.length, e.val)) w := by
  obtain ⟨es', hp, hre⟩ := hr
  obtain ⟨h1, h2⟩ := findK_spec h
  have h1' : ∀ e ∈ es', ∃ q, keyEq P kt k e.1 = some q := fun e he => h1 e (hp.mem_iff.1 he)
  cases r with
  | none =>
    have h2' : ∀ e ∈ es', isKey P kt k e = false := fun e he => h2 e (hp.mem_iff.1 he)
    simp only [Instr.findKey, Sem.run_bind, run_underlying hu, Result.andThen_ok]
    by_cases ha : ∃ len e, u = .array len e
    · obtain ⟨len, e, rfl⟩ := ha
      cases en with
      | nil => simp [Instr.findNow]
      | cons x xs =>
        have : Instr.findNow (.array len e) ku (x :: xs) 0 = none := by simp [Instr.findNow, Instr.sameNow]
        rw [this]
        have hfa := findAsking_run (P := P) (w := w) hk 0 hre h1' h2' []
        simp only [List.append_nil] at hfa
        show (Instr.findAsking kt ku (x :: xs) 0).run P w = _
        rw [hfa]; simp [Instr.findAsking]
    · have := findNow_run hu ha hk 0 hre h1' h2' []
      simp only [List.append_nil] at this
      rw [this]; simp [Instr.findNow]
  | some v =>
    obtain ⟨m₁, a, m₂, rfl, g1, g2, g3, g4⟩ := h2
    -- the same entry in the other order
    have hmem : a ∈ es' := hp.mem_iff.2 (by simp)
    obtain ⟨l₁, l₂, rfl⟩ := List.append_of_mem hmem
    have hperm : (l₁ ++ l₂).Perm (m₁ ++ m₂) := by
      have h3 : (a :: (l₁ ++ l₂)).Perm (a :: (m₁ ++ m₂)) := (List.perm_middle.symm.trans hp).trans List.perm_middle
      exact h3.cons_inv
    have hf : ∀ e ∈ l₁ ++ l₂, isKey P kt k e = false := fun e he => by
      have := hperm.mem_iff.1 he
      rcases List.mem_append.1 this with h | h
      · exact g3 e h
      · exact g4 e h
    have hf1 : ∀ e ∈ l₁, isKey P kt k e = false := fun e he => hf e (by simp [he])
    have hf2 : ∀ e ∈ l₂, isKey P kt k e = false := fun e he => hf e (by simp [he])
    obtain ⟨e₁, e, e₂, rfl, r1, r2, r3⟩ := hre.split
    obtain ⟨q, hq⟩ := h1' a (by simp)
    have hqt : q = true := by simpa [isKey, hq] using g1
    subst hqt
    have hak : a.1 = k := (keyEq_true hq).symm
    refine ⟨l₁, a, l₂, e₁, e, e₂, hp, rfl, r1, r2, r3, hak, g2, g1, hf1, hf2, ?_⟩
    simp only [Instr.findKey, Sem.run_bind, run_underlying hu, Result.andThen_ok]
    have hc1 : ∀ e ∈ l₁, ∃ q, keyEq P kt k e.1 = some q := fun x hx => h1' x (by simp [hx])
    by_cases ha : ∃ len e, u = .array len e
    · obtain ⟨len, el, rfl⟩ := ha
      have hnow : Instr.findNow (.array len el) ku (e₁ ++ e :: e₂) 0 = none := by
        cases e₁ <;> simp [Instr.findNow, Instr.sameNow]
      rw [hnow]
      have := findAsking_run (P := P) (w := w) hk 0 r1 hc1 hf1 (e :: e₂)
      simp only [this, Instr.findAsking, Sem.run_bind, keyEq_run (w := w) hq hk r2.1, Result.andThen_ok, if_true, Sem.run_pure, Nat.zero_add]
    · have := findNow_run hu ha hk 0 r1 hc1 hf1 (e :: e₂)
      rw [this]
      have hs := (sameNow_eq hu hq hk r2.1).resolve_left ha
      simp [Instr.findNow, hs]

def plainD : TypeDesc → Bool
  | .interface _ => false
  | .array _ _ => false
  | .struct _ => false
  | _ => true

theorem keyEq_kind {kt : TypeId} {x y : V} {q : Bool} (h : keyEq P kt x y = some q) :
    (∃ d, P.underlying kt = some d ∧ plainD d = true) ∨
    (∃ len e xs ys u, P.underlying kt = some (.array len e) ∧ x = .agg xs ∧ P.underlying e = some u ∧ szOf P e = some 1 ∧ xs.length = len ∧ allEq u xs ys = some q) := by
  unfold keyEq at h
  split at h
  · rename_i hu; exact .inl ⟨_, hu, rfl⟩
  · rename_i hu; exact .inl ⟨_, hu, rfl⟩
  · rename_i hu; exact .inl ⟨_, hu, rfl⟩
  · rename_i len e xs ys hu
    simp only [eqArray, Option.bind_some', cond_some, Bool.and_eq_true] at h
    obtain ⟨u, hue, n, hn, ⟨⟨h1, h2⟩, h3⟩, h⟩ := h
    have e1 := nat_beq_t h1; have e2 := nat_beq_t h2
    subst e1
    exact .inr ⟨len, e, xs, ys, u, hu, rfl, hue, hn, e2, h⟩
  · cases h

theorem allEq_basic {u : TypeDesc} {xs ys : List V} {r : Bool} (h : allEq u xs ys = some r) (hne : xs ≠ []) : plainD u = true := by
  cases xs with
  | nil => exact absurd rfl hne
  | cons x xs =>
    cases ys with
    | nil => simp [allEq] at h
    | cons y ys =>
      simp only [allEq, Option.bind_some'] at h
      obtain ⟨q, hq, _⟩ := h
      cases u <;> first | rfl | (simp [basicEq] at hq)

theorem checkKey_plain {w : World} {n : Nat} {t : TypeId} {v : Value} {d : TypeDesc} {emp : Bool} (hd : P.underlying t = some d) (hs : plainD d = true) :
    (Instr.checkKey emp (n + 1) t v).run P w = .ok () w := by
  simp only [Instr.checkKey, Sem.run_bind, run_underlying hd, Result.andThen_ok]
  cases d <;> first | (simp [plainD] at hs; done) | rfl

theorem checkKey_array {w : World} {n : Nat} {t e : TypeId} {len : Nat} {us : Array Value} {emp : Bool} (hd : P.underlying t = some (.array len e)) :
    (Instr.checkKey emp (n + 1) t (.agg us)).run P w = ((forIn (List.range' 0 len) PUnit.unit (fun i (_ : PUnit) => do
        let z ← sizeOf e
        let a ← part e us (i * z)
        Instr.checkKey emp n e a
        pure (ForInStep.yield PUnit.unit)) : Sem PUnit).run P w).andThen fun _ w' => .ok () w' := by
  simp only [Instr.checkKey, Sem.run_bind, run_underlying hd, Result.andThen_ok, Std.Legacy.Range.forIn_eq_forIn_range', Std.Legacy.Range.size]
  simp only [Nat.sub_zero, Nat.add_sub_cancel, Nat.div_one, Sem.run_pure]

/-- a key that can be compared can be hashed -/
theorem checkKey_run {φ : Phi} {w : World} {kt : TypeId} {k : V} {ku : Value} (hk : Rv φ k ku) (h : goodKey P kt k = true) (emp : Bool) : (Instr.checkKey emp 10000 kt ku).run P w = .ok () w := by
  unfold goodKey at h
  obtain ⟨q, hq⟩ := Option.isSome_iff_exists.1 h
  rcases keyEq_kind hq with ⟨d, hd, hs⟩ | ⟨len, e, xs, ys, u, hu, rfl, hue, hn, e2, hq⟩
  · exact checkKey_plain (n := 9999) hd hs
  · cases hk; rename_i us hus
    have hloop : ∀ (l : List Nat), (∀ i ∈ l, i < len) → (forIn l PUnit.unit (fun i (_ : PUnit) => do
        let z ← sizeOf e
        let a ← part e ⟨us⟩ (i * z)
        Instr.checkKey emp 9999 e a
        pure (ForInStep.yield PUnit.unit)) : Sem PUnit).run P w = .ok PUnit.unit w := by
      intro l
      induction l with
      | nil => intro _; simp
      | cons i l ih =>
        intro hl
        have hi : i < xs.length := by rw [e2]; exact hl i (by simp)
        have hu' := allEq_basic hq (by intro e; rw [e] at hi; simp at hi)
        obtain ⟨v, hv⟩ : ∃ v, xs[i]? = some v := ⟨_, List.getElem?_eq_getElem hi⟩
        obtain ⟨a, ha, _⟩ := hus.get i v hv
        have hg : agg? P e = some false := by
          unfold agg?
          rw [hue]
          cases u <;> first | rfl | (simp [plainD] at hu')
        have pa : (part e ⟨us⟩ (i * 1)).run P w = .ok a w := by
          simp only [part, Sem.run_bind, run_agg hg, Result.andThen_ok]; simp [ha]
        have ih' := ih fun j hj => hl j (by simp [hj])
        have hck : (Instr.checkKey emp 9999 e a).run P w = .ok () w := checkKey_plain (n := 9998) hue hu'
        simp only [List.forIn_cons, Sem.run_bind, run_sz hn, pa, Result.andThen_ok, hck, Sem.run_pure, ih']
    have := checkKey_array (P := P) (w := w) (n := 9999) (us := ⟨us⟩) (emp := emp) hu
    rw [this, hloop _ (fun i hi => by simp [List.mem_range'] at hi; omega)]
    rfl

end
end Go.Ev
