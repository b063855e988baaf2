/- Operations on maps; ranging; methods behind interfaces. -/
import Derived.Test.YtcbhnjlbolafpabGreatDoorEvI
set_option linter.unusedSimpArgs false
set_option linter.unusedVariables false
namespace Go.Ev
section
variable {P : Program}

theorem mapD_some {t : TypeId} {m : TypeId × TypeId} (h : mapD (P.underlying t) = some m) : P.underlying t = some (.map m.1 m.2) := by
  unfold mapD at h
  split at h
  · rename_i hu; cases h; exact hu
  · cases h
theorem asMap_some {x : Blk} {es : List (V × V)} (h : asMap x = some es) : ∃ bo, x = .map es bo := by cases x <;> simp [asMap] at h; subst h; exact ⟨_, rfl⟩
theorem und_key {kt : TypeId} {k : V} (h : goodKey P kt k = true) : ∃ u, P.underlying kt = some u := by
  unfold goodKey at h
  obtain ⟨q, hq⟩ := Option.isSome_iff_exists.1 h
  rcases keyEq_kind hq with ⟨d, hd, _⟩ | ⟨len, e, _, _, _, hu, _⟩
  · exact ⟨d, hd⟩
  · exact ⟨_, hu⟩

/-- the entries of a map, in the machine -/
theorem entries_run {φ : Phi} {s : St} {w : World} (hh : Rh φ s w) {x : V} {a : Value} (hx : Rv φ x a) {es : List (V × V)} (h : s.entries x = some es) :
    ∃ en : Array MapEntry, RMap φ es en.toList ∧ (∀ {β : Type} (f : Array MapEntry → Sem β), (do
      let es ← match a with
        | .map none => pure #[]
        | .map (some r) => do
          let .map es _ ← getObj r | stuck "Lookup: map expected"
          pure es
        | _ => stuck "Lookup: map expected"
      f es : Sem β).run P w = (f en).run P w) ∧ (∀ r, a = .map (some r) → ∃ clk, w.heap[r]? = some (.map en clk)) := by
  cases x <;> simp only [St.entries] at h <;> try (cases h; done)
  · rename_i r
    obtain ⟨y, hy, hm⟩ := Option.bind_some'.1 h
    obtain ⟨bo, this⟩ := asMap_some hm; subst this
    cases hx; rename_i l hl
    obtain ⟨en, clk, h1, h2, _⟩ := hh.blk r l _ hl hy
    refine ⟨en, h2, fun f => ?_, fun r' e => ⟨clk, by cases e; exact h1⟩⟩
    simp [getObj, Sem.run, h1]
  · cases h
    cases hx
    exact ⟨#[], ⟨[], List.Perm.refl _, .nil⟩, fun f => by simp, fun r' e => by cases e⟩

theorem lookup_sound {φ : Phi} {s : St} {w : World} (hh : Rh φ s w) {t : TypeId} {x k r : V} {a b : Value} {ok : Bool} (hx : Rv φ x a) (hk : Rv φ k b) (h : lookupV P s t x k ok = some r) :
    ∃ u, (Instr.lookup t a b ok).run P w = .ok u w ∧ Rv φ r u := by
  simp only [lookupV, Option.bind_some', cond_some] at h
  obtain ⟨m, hm, es, hes, hg, q, hq, h⟩ := h
  have hu := mapD_some hm
  obtain ⟨en, hen, hrun, _⟩ := entries_run (P := P) hh hx hes
  obtain ⟨u, huk⟩ := und_key hg
  have hck := checkKey_run (w := w) hk hg
  have hf := findKey_run (w := w) huk hk hen hq
  have hstart : (Instr.lookup t a b ok).run P w = (do
      Instr.checkKey en.isEmpty 10000 m.1 b
      let (v, ok') ← match ← Instr.findKey m.1 b en.toList with
        | some (_, v) => pure (v, true)
        | none => pure (← zeroValue m.2, false)
      pure (if ok then .tuple #[v, .bool ok'] else v) : Sem Value).run P w := by
    simp only [Instr.lookup]
    rw [Sem.run_bind, run_underlying hu]
    simp only [Result.andThen_ok]
    exact hrun _
  rw [hstart]
  cases q with
  | some v =>
    simp only [Option.some.injEq] at h
    subst h
    obtain ⟨l₁, a', l₂, e₁, e, e₂, g1, g2, g3, g4, g5, g6, g7, g8, g9, g10, g11⟩ := hf
    refine ⟨_, ?_, okV_sound (by rw [← g7]; exact g4.2) ok true⟩
    simp only [Sem.run_bind, hck, Result.andThen_ok, g11, Sem.run_pure]
  | none =>
    obtain ⟨z, hz, rfl⟩ := Option.map_some'.1 h
    obtain ⟨uz, hz1, hz2⟩ := run_zero (φ := φ) hz w
    refine ⟨_, ?_, okV_sound hz2 ok false⟩
    simp only [Sem.run_bind, hck, Result.andThen_ok, hf, Sem.run_pure, hz1]

/-- a key is equal to itself, bit for bit -/
theorem ba_beq_self (x : List UInt8) : ((ByteArray.mk (Array.mk x)) == (ByteArray.mk (Array.mk x))) = true := by rw [ba_beq]; simp
theorem basicEq_refl {u : TypeDesc} {x y : V} {q : Bool} (h : basicEq u x y = some q) (e : x = y) : q = true := by
  unfold basicEq at h
  split at h
  · cases e; cases h; rw [boolEq_eq]; simp
  · cases e; rw [cond_some] at h; obtain ⟨_, h⟩ := h; cases h; rw [intEq_eq]; simp
  · cases e; cases h; rw [strEq_eq]; simp
  · cases h
theorem basicEq_bits {φ : Phi} {u : TypeDesc} {x y : V} {q : Bool} (h : basicEq u x y = some q) (e : x = y) {a b : Value} (ha : Rv φ x a) (hb : Rv φ y b) (n : Nat) : Instr.sameBits n a b = true := by
  unfold basicEq at h
  split at h
  · cases e; cases ha; cases hb; cases n <;> simp [Instr.sameBits]
  · cases e; cases ha; cases hb; cases n <;> simp [Instr.sameBits]
  · cases e; cases ha; cases hb; cases n <;> simp only [Instr.sameBits, ba_beq_self]
  · cases h
theorem allEq_refl {u : TypeDesc} : ∀ {xs ys : List V} {q : Bool}, allEq u xs ys = some q → xs = ys → q = true
  | [], [], q, h, _ => by simpa [allEq] using h.symm
  | [], _ :: _, q, h, _ => by simp [allEq] at h
  | _ :: _, [], q, h, _ => by simp [allEq] at h
  | x :: xs, y :: ys, q, h, e => by
    simp only [allEq, Option.bind_some'] at h
    obtain ⟨p, hp, h⟩ := h
    have := basicEq_refl hp (List.cons.inj e).1
    subst this
    exact allEq_refl (by simpa using h) (List.cons.inj e).2
theorem sameBits_cells {φ : Phi} {u : TypeDesc} : ∀ {xs ys : List V} {q : Bool} {us vs : List Value}, allEq u xs ys = some q → xs = ys → RvL φ xs us → RvL φ ys vs → ∀ n, ((us.zip vs).all fun (x, y) => Instr.sameBits n x y) = true
  | _, _, _, _, _, _, _, .nil, .nil, n => by simp
  | _, _, _, _, _, h, e, .nil, .cons _ _ _ _ _ _, n => by cases e
  | _, _, _, _, _, h, e, .cons _ _ _ _ _ _, .nil, n => by cases e
  | x :: xs, y :: ys, q, a :: m, b :: m', h, e, .cons _ _ _ _ ha hm, .cons _ _ _ _ hb hm', n => by
    simp only [allEq, Option.bind_some'] at h
    obtain ⟨p, hp, h⟩ := h
    have hpt := basicEq_refl hp (List.cons.inj e).1
    subst hpt
    have ih := sameBits_cells (by simpa using h) (List.cons.inj e).2 hm hm' n
    have h1 := basicEq_bits hp (List.cons.inj e).1 ha hb n
    simp only [List.zip_cons_cons, List.all_cons, h1, Bool.true_and]
    exact ih
theorem keyEq_refl {kt : TypeId} {x y : V} {q : Bool} (h : keyEq P kt x y = some q) (e : x = y) : q = true := by
  unfold keyEq at h
  split at h
  · cases e; cases h; rw [boolEq_eq]; simp
  · cases e; rw [cond_some] at h; obtain ⟨_, h⟩ := h; cases h; rw [intEq_eq]; simp
  · cases e; cases h; rw [strEq_eq]; simp
  · simp only [eqArray, Option.bind_some', cond_some] at h
    obtain ⟨u, _, n, _, _, h⟩ := h
    exact allEq_refl h (V.agg.inj e)
  · cases h
theorem keyEq_bits {φ : Phi} {kt : TypeId} {x y : V} {q : Bool} (h : keyEq P kt x y = some q) (e : x = y) {a b : Value} (ha : Rv φ x a) (hb : Rv φ y b) : Instr.sameBits 10000 a b = true := by
  unfold keyEq at h
  split at h
  · cases e; cases ha; cases hb; simp [Instr.sameBits]
  · cases e; cases ha; cases hb; simp [Instr.sameBits]
  · cases e; cases ha; cases hb; simp only [Instr.sameBits, ba_beq_self]
  · simp only [eqArray, Option.bind_some', cond_some] at h
    obtain ⟨u, _, n, _, _, h⟩ := h
    have e' := V.agg.inj e
    cases ha; rename_i us hus
    cases hb; rename_i vs hvs
    have h1 := sameBits_cells h e' hus hvs 9999
    have hl : us.length = vs.length := by rw [← hus.length, ← hvs.length, e']
    show Instr.sameBits (9999 + 1) _ _ = true
    simp only [Instr.sameBits, List.size_toArray, hl, beq_self_eq_true, Bool.true_and]
    exact h1
  · cases h

theorem setK_split {kt : TypeId} {k v : V} {l₁ l₂ : List (V × V)} {a : V × V} (ha : isKey P kt k a = true) (h1 : ∀ e ∈ l₁, isKey P kt k e = false) (h2 : ∀ e ∈ l₂, isKey P kt k e = false) :
    setK P kt k v (l₁ ++ a :: l₂) = l₁ ++ (k, v) :: l₂ := by
  have key : ∀ l : List (V × V), (∀ e ∈ l, isKey P kt k e = false) → (l.map fun e => bif isKey P kt k e then (k, v) else e) = l := by
    intro l hl
    induction l with
    | nil => rfl
    | cons x l ih => simp [hl x (by simp), ih fun e he => hl e (by simp [he])]
  simp [setK, ha, key l₁ h1, key l₂ h2]
theorem eraseK_split {kt : TypeId} {k : V} {l₁ l₂ : List (V × V)} {a : V × V} (ha : isKey P kt k a = true) (h1 : ∀ e ∈ l₁, isKey P kt k e = false) (h2 : ∀ e ∈ l₂, isKey P kt k e = false) :
    eraseK P kt k (l₁ ++ a :: l₂) = l₁ ++ l₂ := by
  have key : ∀ l : List (V × V), (∀ e ∈ l, isKey P kt k e = false) → (l.filter fun e => !isKey P kt k e) = l := by
    intro l hl
    rw [List.filter_eq_self]
    intro e he; simp [hl e he]
  simp [eraseK, ha, key l₁ h1, key l₂ h2]
theorem eraseK_none {kt : TypeId} {k : V} {l : List (V × V)} (h1 : ∀ e ∈ l, isKey P kt k e = false) : eraseK P kt k l = l := by
  unfold eraseK; rw [List.filter_eq_self]; intro e he; simp [h1 e he]

theorem setObj_run {w : World} {r : Nat} {en : Array MapEntry} {clk : Nat} (h : w.heap[r]? = some (.map en clk)) (o : Obj) :
    (setObj r o).run P w = .ok () { w with heap := w.heap.setIfInBounds r o } := by simp [setObj, Sem.run, h]
theorem setObj_heap {w : World} {r : Nat} {o : Obj} {x : Obj} (h : w.heap[r]? = some x) : ({ w with heap := w.heap.setIfInBounds r o } : World).heap.size = w.heap.size ∧
    (∀ B, B ≠ r → ({ w with heap := w.heap.setIfInBounds r o } : World).heap[B]? = w.heap[B]?) ∧ ({ w with heap := w.heap.setIfInBounds r o } : World).heap[r]? = some o := by
  have hr : r < w.heap.size := (Array.getElem?_eq_some_iff.1 h).1
  refine ⟨by simp, fun B hB => ?_, by simp [hr]⟩
  exact Array.getElem?_setIfInBounds_ne (fun e => hB e.symm)

theorem modify_mid {α : Type} (f : α → α) (a : α) (l₂ : List α) : ∀ l₁ : List α, (l₁ ++ a :: l₂).modify l₁.length f = l₁ ++ f a :: l₂
  | [] => by simp
  | x :: l₁ => by
    have := modify_mid f a l₂ l₁
    simpa using this
theorem map_live {es : List (V × V)} {bo : Option (List Nat × Nat)} : (Blk.map es bo).live := trivial

theorem born_new {bo : Option (List Nat × Nat)} {en : List MapEntry} {clk : Nat} (h : RBorn bo en clk) (e : MapEntry) (he : e.born = clk) : RBorn (bornNew bo) (en ++ [e]) (clk + 1) := by
  cases bo with
  | none => trivial
  | some q =>
    obtain ⟨bs, c⟩ := q
    obtain ⟨h1, h2⟩ := h
    subst h2
    refine ⟨?_, rfl⟩
    rw [List.map_append]
    simp only [List.map_cons, List.map_nil, he]
    exact h1.append_right _
theorem born_same {bo : Option (List Nat × Nat)} {en en' : List MapEntry} {clk : Nat} (h : RBorn bo en clk) (he : en'.map (·.born) = en.map (·.born)) : RBorn bo en' clk := by
  cases bo with
  | none => trivial
  | some q => exact ⟨by rw [he]; exact h.1, h.2⟩
theorem born_del {bo : Option (List Nat × Nat)} {e₁ e₂ : List MapEntry} {e : MapEntry} {clk : Nat} (h : RBorn bo (e₁ ++ e :: e₂) clk) {es : List (V × V)} (hl : es.length = e₁.length + e₂.length + 1) {v : V} : RBorn (bornDel es bo (some v)) (e₁ ++ e₂) clk := by
  unfold bornDel
  simp only [Option.isSome_some, cond_true]
  cases hb : Nat.beq es.length 1 with
  | false => trivial
  | true =>
    have := Nat.eq_of_beq_eq_true hb
    cases bo with
    | none => trivial
    | some q =>
      obtain ⟨h1, h2⟩ := h
      have e1 : e₁ = [] := List.length_eq_zero_iff.1 (by omega)
      have e2 : e₂ = [] := List.length_eq_zero_iff.1 (by omega)
      subst e1; subst e2
      exact ⟨List.Perm.refl _, h2⟩

theorem mapUpdate_sound {φ : Phi} {s s' : St} {w : World} (hh : Rh φ s w) {t : TypeId} {m k x : V} {a b c : Value} (hm : Rv φ m a) (hk : Rv φ k b) (hx : Rv φ x c) (h : mapUpdateV P s t m k x = some s') :
    ∃ w', (Instr.mapUpdate t a b c).run P w = .ok () w' ∧ Rh φ s' w' ∧ Ext φ s w φ s' w' ∧ s'.next = s.next := by
  simp only [mapUpdateV, Option.bind_some', cond_some] at h
  obtain ⟨mt, hmt, r, hr, y, hy, es, hes, hg, h⟩ := h
  obtain ⟨old, hold, rfl⟩ := Option.map_some'.1 h
  have hu := mapD_some hmt
  obtain ⟨bo, this⟩ := asMap_some hes; subst this
  cases m <;> simp [asMapR] at hr
  subst hr
  cases hm; rename_i l hl
  obtain ⟨en, clk, h1, h2, hbo⟩ := hh.blk _ l _ hl hy
  obtain ⟨u, huk⟩ := und_key hg
  have hck := checkKey_run (w := w) hk hg false
  have hf := findKey_run (w := w) huk hk h2 hold
  cases old with
  | none =>
    obtain ⟨g1, g2, g3⟩ := setObj_heap (o := .map (en.push { key := b, val := c, born := clk }) (clk + 1)) h1
    obtain ⟨r1, r2⟩ := write_sound (x' := .map (es ++ [(k, x)]) (bornNew bo)) hh hl hy map_live g1 g2 (by
      obtain ⟨es', hp, hre⟩ := h2
      exact ⟨_, _, g3, ⟨es' ++ [(k, x)], hp.append_right _, by simpa using hre.append (.cons _ _ _ _ ⟨hk, hx⟩ .nil)⟩, by simpa using born_new hbo _ rfl⟩)
    refine ⟨_, ?_, r1, r2, rfl⟩
    simp only [Instr.mapUpdate, Sem.run_bind, run_underlying hu, Result.andThen_ok]
    simp only [getObj, Sem.run, h1, Sem.run_bind, Result.andThen_ok, hck, hf, Sem.run_pure', Sem.run_pure]
    exact setObj_run h1 _
  | some v =>
    obtain ⟨l₁, a', l₂, e₁, e, e₂, f1, f2, f3, f4, f5, f6, f7, f8, f9, f10, f11⟩ := hf
    have hki : en[e₁.length]? = some e := by
      have : en.toList[e₁.length]? = some e := by rw [f2]; simp
      simpa using this
    have hsb : Instr.sameBits 10000 e.key b = true := by
      unfold goodKey at hg
      obtain ⟨q, hq⟩ := Option.isSome_iff_exists.1 hg
      exact keyEq_bits hq rfl (by rw [← f6]; exact f4.1) hk
    obtain ⟨g1, g2, g3⟩ := setObj_heap (o := .map (en.modify e₁.length fun e => { e with key := b, val := c }) clk) h1
    have hmod : (en.modify e₁.length fun e => { e with key := b, val := c }).toList = e₁ ++ { e with key := b, val := c } :: e₂ := by
      rw [Array.toList_modify, f2, modify_mid]
    obtain ⟨r1, r2⟩ := write_sound (x' := .map (setK P mt.1 k x es) bo) hh hl hy map_live g1 g2 (by
      refine ⟨_, _, g3, ⟨l₁ ++ (k, x) :: l₂, ?_, ?_⟩, ?_⟩
      · rw [← setK_split (v := x) f8 f9 f10]
        exact f1.map _
      · rw [hmod]
        exact f3.append (.cons _ _ _ _ ⟨hk, hx⟩ f5)
      · rw [hmod]; rw [f2] at hbo
        exact born_same hbo (by simp))
    refine ⟨_, ?_, r1, r2, rfl⟩
    simp only [Instr.mapUpdate, Sem.run_bind, run_underlying hu, Result.andThen_ok]
    simp only [getObj, Sem.run, h1, Sem.run_bind, Result.andThen_ok, hck, f11, Sem.run_pure', Sem.run_pure, hki, Option.map_some, Option.getD_some, Instr.keyThatStays, hsb, if_true]
    exact setObj_run h1 _

theorem delete_sound {φ : Phi} {s s' : St} {w : World} (hh : Rh φ s w) {t : TypeId} {m k : V} {a b : Value} {ts : Array TypeId} {ty : TypeId} (ht : ts[0]? = some t) (hm : Rv φ m a) (hk : Rv φ k b) (h : deleteV P s t m k = some s') :
    ∃ w', (Builtin.delete_ ts ty #[a, b]).run P w = .ok (.tuple #[]) w' ∧ Rh φ s' w' ∧ Ext φ s w φ s' w' ∧ s'.next = s.next := by
  simp only [deleteV, Option.bind_some', cond_some] at h
  obtain ⟨mt, hmt, hg, h⟩ := h
  have hu := mapD_some hmt
  have hck := checkKey_run (w := w) hk hg
  split at h
  · cases h
    cases hm
    refine ⟨w, ?_, hh, Ext.refl _ _ _, rfl⟩
    simp [Builtin.delete_, ht, run_underlying hu, hck]
  · rename_i r
    simp only [Option.bind_some'] at h
    obtain ⟨y, hy, es, hes, h⟩ := h
    obtain ⟨old, hold, rfl⟩ := Option.map_some'.1 h
    obtain ⟨bo, this⟩ := asMap_some hes; subst this
    cases hm; rename_i l hl
    obtain ⟨en, clk, h1, h2, hbo⟩ := hh.blk _ l _ hl hy
    obtain ⟨u, huk⟩ := und_key hg
    have hf := findKey_run (w := w) huk hk h2 hold
    cases old with
    | none =>
      obtain ⟨g1, g2, g3⟩ := setObj_heap (o := .map en clk) h1
      obtain ⟨r1, r2⟩ := write_sound (x' := .map (eraseK P mt.1 k es) bo) hh hl hy map_live g1 g2 (by
        rw [eraseK_none (findK_spec hold).2]
        exact ⟨_, _, g3, h2, hbo⟩)
      refine ⟨_, ?_, r1, r2, rfl⟩
      simp only [Builtin.delete_, ht]
      simp [run_underlying hu, getObj, Sem.run, h1, hck, hf, setObj]
    | some v =>
      obtain ⟨l₁, a', l₂, e₁, e, e₂, f1, f2, f3, f4, f5, f6, f7, f8, f9, f10, f11⟩ := hf
      obtain ⟨g1, g2, g3⟩ := setObj_heap (o := .map (en.eraseIdxIfInBounds e₁.length) clk) h1
      have hers : (en.eraseIdxIfInBounds e₁.length).toList = e₁ ++ e₂ := by
        have hlt : e₁.length < en.size := by
          have : en.toList.length = (e₁ ++ e :: e₂).length := by rw [f2]
          simp at this; omega
        simp [Array.eraseIdxIfInBounds, hlt, f2, List.eraseIdx_append_of_length_le]
      obtain ⟨r1, r2⟩ := write_sound (x' := .map (eraseK P mt.1 k es) (bornDel es bo (some v))) hh hl hy map_live g1 g2 (by
        refine ⟨_, _, g3, ⟨l₁ ++ l₂, ?_, ?_⟩, ?_⟩
        · rw [← eraseK_split f8 f9 f10]
          exact f1.filter _
        · rw [hers]; exact f3.append f5
        · rw [hers]; rw [f2] at hbo
          exact born_del hbo (by have := f1.length_eq; have := f3.length; have := f5.length; simp at *; omega))
      refine ⟨_, ?_, r1, r2, rfl⟩
      simp only [Builtin.delete_, ht]
      simp [run_underlying hu, getObj, Sem.run, h1, hck, f11, setObj]
  · cases h
end
end Go.Ev
