/- What the checks of a drawn region tell. -/
import Derived.Test.YtcbhnjlbolafpabGreatDoorEvZA
set_option linter.unusedSimpArgs false
set_option linter.unusedVariables false
namespace Go.Ev
section
variable {P : Program}

theorem nbeq {a b : Nat} (h : Nat.beq a b = true) : a = b := Nat.eq_of_beq_eq_true h
mutual
theorem V.beq_eq : ∀ {a b : V}, V.beq a b = true → a = b
  | .bool a, .bool b, h => by simp only [V.beq, boolEq_eq, beq_iff_eq] at h; rw [h]
  | .int k a, .int k' b, h => by simp only [V.beq, intEq_eq, Bool.and_eq_true, beq_iff_eq] at h; rw [kEq_t h.1, h.2]
  | .str a, .str b, h => by simp only [V.beq, strEq_eq, beq_iff_eq] at h; rw [h]
  | .ptr b o, .ptr b' o', h => by simp only [V.beq, Bool.and_eq_true] at h; rw [nbeq h.1, nbeq h.2]
  | .nilp, .nilp, _ => rfl
  | .slice b o l c f, .slice b' o' l' c' f', h => by
    simp only [V.beq, Bool.and_eq_true, boolEq_eq, beq_iff_eq] at h
    obtain ⟨⟨⟨⟨h1, h2⟩, h3⟩, h4⟩, h5⟩ := h
    rw [nbeq h1, nbeq h2, nbeq h3, nbeq h4, h5]
  | .etail b o p, .etail b' o' p', h => by
    simp only [V.beq, Bool.and_eq_true] at h
    rw [nbeq h.1.1, nbeq h.1.2, nbeq h.2]
  | .nils, .nils, _ => rfl
  | .map a, .map b, h => by simp only [V.beq] at h; rw [nbeq h]
  | .nilm, .nilm, _ => rfl
  | .func (.func f) x y, .func (.func f') x' y', h => by
    simp only [V.beq, Bool.and_eq_true] at h
    rw [nbeq h.1.1, V.beqL_eq h.1.2, V.beqL_eq h.2]
  | .nilf, .nilf, _ => rfl
  | .iface t v, .iface t' v', h => by
    simp only [V.beq, Bool.and_eq_true] at h
    rw [nbeq h.1, V.beq_eq h.2]
  | .nili, .nili, _ => rfl
  | .agg l, .agg l', h => by simp only [V.beq] at h; rw [V.beqL_eq h]
  | .tup l, .tup l', h => by simp only [V.beq] at h; rw [V.beqL_eq h]
theorem V.beqL_eq : ∀ {a b : List V}, V.beqL a b = true → a = b
  | [], [], _ => rfl
  | a :: l, b :: m, h => by
    simp only [V.beqL, Bool.and_eq_true] at h
    rw [V.beq_eq h.1, V.beqL_eq h.2]
end

/-! The rows as they were run. -/
def RowOk (P : Program) (r : R) (ro : Option Nat) (all : List Oper) (ld : List Ld) (o : Oper) (j : Nat) (a : Act) (s : St) (a' : Act) (s' : St) : Prop :=
  (wantedA all a o.guard = false ∧ a' = a.put o.dst undef ∧ s' = s) ∨
  (wantedA all a o.guard = true ∧ ∃ out, execA P a s o.op = some out ∧ doOut r ro a o.dst s out = some (.norm, a', s') ∧
    (readsO P o.op = true → isChain P o.op = false → ∃ v s1, out = .val v s1 ∧ ⟨j, o.op, a, v⟩ ∈ ld))

theorem trace {r : R} {ro : Option Nat} {all : List Oper} : ∀ {l : List Oper} {i : Nat} {sn : List Snap} {ld : List Ld} {a : Act} {s : St} {a' : Act} {s' : St} {sn' : List Snap} {ld' : List Ld},
    drawF P r ro all l i sn ld a s = some (a', s', sn', ld') → ∃ (A : Nat → Act) (S : Nat → St), A i = a ∧ S i = s ∧ A (i + l.length) = a' ∧ S (i + l.length) = s' ∧
    (∀ j o, l[j]? = some o → RowOk P r ro all ld' o (i + j) (A (i + j)) (S (i + j)) (A (i + j + 1)) (S (i + j + 1))) ∧
    (∃ cr : List Nat, sn' = (cr.reverse.map fun j => ⟨j, S j⟩) ++ sn ∧ cr.Pairwise (· < ·) ∧ ∀ c, c ∈ cr ↔ ∃ j o, c = i + j ∧ l[j]? = some o ∧ wantedA all (A c) o.guard = true ∧ isChain P o.op = true) ∧
    ∀ x ∈ ld, x ∈ ld'
  | [], i, sn, ld, a, s, a', s', sn', ld', h => by
    cases h
    exact ⟨fun _ => a, fun _ => s, rfl, rfl, rfl, rfl, fun j o h => by simp at h, ⟨[], by simp, .nil, by simp⟩, fun x hx => hx⟩
  | o :: l, i, sn, ld, a, s, a', s', sn', ld', h => by
    have key : ∀ (a1 : Act) (s1 : St) (sn1 : List Snap) (ld1 : List Ld), drawF P r ro all l (i + 1) sn1 ld1 a1 s1 = some (a', s', sn', ld') → (∀ x ∈ ld, x ∈ ld1) →
        ((∀ x ∈ ld1, x ∈ ld') → RowOk P r ro all ld' o i a s a1 s1) → (sn1 = if wantedA all a o.guard = true ∧ isChain P o.op = true then ⟨i, s⟩ :: sn else sn) →
        ∃ (A : Nat → Act) (S : Nat → St), A i = a ∧ S i = s ∧ A (i + (o :: l).length) = a' ∧ S (i + (o :: l).length) = s' ∧
        (∀ j o', (o :: l)[j]? = some o' → RowOk P r ro all ld' o' (i + j) (A (i + j)) (S (i + j)) (A (i + j + 1)) (S (i + j + 1))) ∧
        (∃ cr : List Nat, sn' = (cr.reverse.map fun j => ⟨j, S j⟩) ++ sn ∧ cr.Pairwise (· < ·) ∧ ∀ c, c ∈ cr ↔ ∃ j o', c = i + j ∧ (o :: l)[j]? = some o' ∧ wantedA all (A c) o'.guard = true ∧ isChain P o'.op = true) ∧
        ∀ x ∈ ld, x ∈ ld' := by
      intro a1 s1 sn1 ld1 hd hld hrow hsn
      obtain ⟨A, S, h1, h2, h3, h4, h5, ⟨cr, c1, c2, c3⟩, h6⟩ := trace hd
      have hA : ∀ j, j ≠ i → (fun j => if j = i then a else A j) j = A j := fun j hj => if_neg hj
      have hS : ∀ j, j ≠ i → (fun j => if j = i then s else S j) j = S j := fun j hj => if_neg hj
      refine ⟨fun j => if j = i then a else A j, fun j => if j = i then s else S j, if_pos rfl, if_pos rfl, ?_, ?_, ?_, ?_, fun x hx => h6 x (hld x hx)⟩
      · rw [hA _ (by simp)]; simp only [List.length_cons]; rw [show i + (l.length + 1) = i + 1 + l.length by omega]; exact h3
      · rw [hS _ (by simp)]; simp only [List.length_cons]; rw [show i + (l.length + 1) = i + 1 + l.length by omega]; exact h4
      · intro j o' hj
        cases j with
        | zero =>
          simp only [List.getElem?_cons_zero, Option.some.injEq] at hj
          subst hj
          have e1 : (fun j => if j = i then a else A j) (i + 0 + 1) = a1 := by rw [hA _ (by omega)]; exact h1
          have e2 : (fun j => if j = i then s else S j) (i + 0 + 1) = s1 := by rw [hS _ (by omega)]; exact h2
          rw [e1, e2]
          simpa using hrow h6
        | succ j =>
          have := h5 j o' (by simpa using hj)
          rw [hA _ (by omega), hS _ (by omega), hA _ (by omega), hS _ (by omega)]
          rw [show i + (j + 1) = i + 1 + j by omega]; exact this
      · have hmem : ∀ c, c ∈ cr → i < c := fun c hc => by
          obtain ⟨j, o', e, _⟩ := (c3 c).1 hc
          omega
        have hmap : (cr.reverse.map fun j => (⟨j, S j⟩ : Snap)) = cr.reverse.map fun j => ⟨j, (fun j => if j = i then s else S j) j⟩ := by
          refine List.map_congr_left fun c hc => ?_
          rw [hS c (by have := hmem c (by simpa using hc); omega)]
        have hc3 : ∀ c, c ∈ cr ↔ ∃ j o', c = i + (j + 1) ∧ l[j]? = some o' ∧ wantedA all ((fun j => if j = i then a else A j) c) o'.guard = true ∧ isChain P o'.op = true := fun c => by
          rw [c3]
          constructor
          · rintro ⟨j, o', e, q⟩
            refine ⟨j, o', by omega, ?_⟩
            rw [hA c (by omega)]; exact q
          · rintro ⟨j, o', e, q⟩
            refine ⟨j, o', by omega, ?_⟩
            rw [hA c (by omega)] at q; exact q
        by_cases hw : wantedA all a o.guard = true ∧ isChain P o.op = true
        · rw [if_pos hw] at hsn
          refine ⟨i :: cr, ?_, List.pairwise_cons.2 ⟨hmem, c2⟩, fun c => ?_⟩
          · rw [c1, hsn, hmap]
            simp
          · rw [List.mem_cons, hc3]
            constructor
            · rintro (rfl | ⟨j, o', e, q1, q2⟩)
              · exact ⟨0, o, rfl, rfl, by simpa using hw.1, hw.2⟩
              · exact ⟨j + 1, o', e, by simpa using q1, q2⟩
            · rintro ⟨j, o', e, q1, q2⟩
              cases j with
              | zero => exact .inl e
              | succ j => exact .inr ⟨j, o', e, by simpa using q1, q2⟩
        · rw [if_neg hw] at hsn
          refine ⟨cr, ?_, c2, fun c => ?_⟩
          · rw [c1, hsn, hmap]
          · rw [hc3]
            constructor
            · rintro ⟨j, o', e, q1, q2⟩
              exact ⟨j + 1, o', e, by simpa using q1, q2⟩
            · rintro ⟨j, o', e, q1, q2⟩
              cases j with
              | zero =>
                simp only [List.getElem?_cons_zero, Option.some.injEq] at q1
                subst q1
                simp only [Nat.add_zero] at e
                subst e
                simp only [if_true] at q2
                exact absurd q2 hw
              | succ j => exact ⟨j, o', e, by simpa using q1, q2⟩
    unfold drawF at h
    cases hw : wantedA all a o.guard with
    | true =>
      rw [hw, cond_true] at h
      obtain ⟨out, hout, h⟩ := Option.bind_some'.1 h
      obtain ⟨⟨e, a1, s1⟩, hdo, h⟩ := Option.bind_some'.1 h
      cases e <;> simp only at h <;> try (cases h; done)
      refine key a1 s1 _ _ h ?_ ?_ ?_
      · intro x hx
        unfold addLd
        cases (readsO P o.op && !isChain P o.op) with
        | false => exact hx
        | true =>
          simp only [cond_true]
          split
          · exact List.mem_cons_of_mem _ hx
          · exact hx
      · intro hsub
        refine .inr ⟨hw, out, hout, hdo, fun hr hc => ?_⟩
        obtain ⟨v, rfl⟩ := read_sound hc hr hout
        refine ⟨v, s, rfl, hsub _ ?_⟩
        unfold addLd
        rw [hr, hc]
        simp [isVal]
      · rw [hw]
        cases hc : isChain P o.op <;> simp
    | false =>
      rw [hw, cond_false] at h
      exact key _ _ _ _ h (fun x hx => hx) (fun _ => .inl ⟨hw, rfl, rfl⟩) (by rw [hw]; simp)

/-! What comes ahead. -/
theorem bfOne_bit {acc : List Nat} {i : Nat} : ∀ {es : List Edge}, Nat.testBit (bfOne acc es) i = true → ∃ e ∈ es, Region.binds .any e = true ∧ (e.on = i ∨ Nat.testBit ((acc.drop e.on).headD 0) i = true)
  | [], h => by simp [bfOne] at h
  | e :: l, h => by
    unfold bfOne at h
    cases hb : Region.binds .any e with
    | false =>
      rw [hb, cond_false] at h
      obtain ⟨e', he, q⟩ := bfOne_bit h
      exact ⟨e', List.mem_cons_of_mem _ he, q⟩
    | true =>
      rw [hb, cond_true] at h
      have h : Nat.testBit ((2 ^ e.on ||| (acc.drop e.on).headD 0) ||| bfOne acc l) i = true := h
      rw [Nat.testBit_or, Nat.testBit_or, Bool.or_eq_true, Bool.or_eq_true] at h
      rcases h with (h | h) | h
      · rw [Nat.testBit_two_pow] at h
        exact ⟨e, by simp, hb, .inl (by simpa using h)⟩
      · exact ⟨e, by simp, hb, .inr h⟩
      · obtain ⟨e', he, q⟩ := bfOne_bit h
        exact ⟨e', List.mem_cons_of_mem _ he, q⟩

theorem bfGo_spec : ∀ (l : List Oper) (acc : List Nat), (bfGo acc l).length = acc.length + l.length ∧ (bfGo acc l).take acc.length = acc ∧
    ∀ j o, l[j]? = some o → (bfGo acc l)[acc.length + j]? = some (bfOne ((bfGo acc l).take (acc.length + j)) o.after.toList)
  | [], acc => by simp [bfGo]
  | o :: l, acc => by
    obtain ⟨h1, h2, h3⟩ := bfGo_spec l (acc ++ [bfOne acc o.after.toList])
    simp only [List.length_append, List.length_singleton] at h1 h2 h3
    unfold bfGo
    have htake : (bfGo (acc ++ [bfOne acc o.after.toList]) l).take acc.length = acc := by
      have := congrArg (List.take acc.length) h2
      rw [List.take_take, Nat.min_eq_left (by omega)] at this
      rw [this]; simp
    refine ⟨by simp only [h1, List.length_cons]; omega, htake, fun j o' hj => ?_⟩
    cases j with
    | zero =>
      simp only [List.getElem?_cons_zero, Option.some.injEq] at hj
      subst hj
      rw [Nat.add_zero, htake]
      have : ((bfGo (acc ++ [bfOne acc o.after.toList]) l).take (acc.length + 1))[acc.length]? = some (bfOne acc o.after.toList) := by rw [h2]; simp
      rw [List.getElem?_take] at this
      simpa using this
    | succ j =>
      have := h3 j o' (by simpa using hj)
      rw [show acc.length + (j + 1) = acc.length + 1 + j by omega]; exact this

def Closed (all : List Oper) (D : Nat → Prop) : Prop := ∀ j o, all[j]? = some o → D j → ∀ e ∈ o.after.toList, Region.binds .any e = true → D e.on

theorem headD_drop (l : List Nat) (j : Nat) : (l.drop j).headD 0 = (l[j]?).getD 0 := by
  rw [List.headD_eq_head?_getD, List.head?_drop]

theorem bit_edge {all : List Oper} {j i : Nat} (h : bit (bfL all) j i = true) : ∃ o, all[j]? = some o ∧ ∃ e ∈ o.after.toList, Region.binds .any e = true ∧ (e.on = i ∨ (e.on < j ∧ bit (bfL all) e.on i = true)) := by
  obtain ⟨h1, _, h3⟩ := bfGo_spec all []
  simp only [List.length_nil, Nat.zero_add] at h1 h3
  unfold bit at h
  rw [headD_drop] at h
  cases ho : all[j]? with
  | none =>
    have : (bfL all)[j]? = none := by
      rw [List.getElem?_eq_none_iff] at ho ⊢
      unfold bfL; omega
    rw [this] at h; simp at h
  | some o =>
    refine ⟨o, rfl, ?_⟩
    have := h3 j o ho
    unfold bfL at h
    rw [this, Option.getD_some] at h
    obtain ⟨e, he, hb, hq⟩ := bfOne_bit h
    refine ⟨e, he, hb, ?_⟩
    rcases hq with hq | hq
    · exact .inl hq
    · right
      rw [headD_drop, List.getElem?_take] at hq
      by_cases hlt : e.on < j
      · rw [if_pos hlt] at hq
        refine ⟨hlt, ?_⟩
        unfold bit bfL
        rw [headD_drop]; exact hq
      · rw [if_neg hlt] at hq; simp at hq

theorem bit_closed {all : List Oper} {D : Nat → Prop} (hD : Closed all D) : ∀ (j i : Nat), bit (bfL all) j i = true → D j → D i := by
  intro j
  induction j using Nat.strongRecOn with
  | _ j ih =>
    intro i h hj
    obtain ⟨o, ho, e, he, hb, hq⟩ := bit_edge h
    have hon := hD j o ho hj e he hb
    rcases hq with rfl | ⟨hlt, hq⟩
    · exact hon
    · exact ih e.on hlt i hq hon

theorem downL_spec : ∀ {l : List Oper} {i : Nat}, downL i l = true → ∀ j o, l[j]? = some o → ∀ e ∈ o.after.toList, Region.binds .any e = true → e.on < i + j
  | [], i, h, j, o, ho => by simp at ho
  | x :: l, i, h, j, o, ho => by
    simp only [downL, Bool.and_eq_true] at h
    cases j with
    | zero =>
      simp only [List.getElem?_cons_zero, Option.some.injEq] at ho
      subst ho
      have key : ∀ {es : List Edge}, downE i es = true → ∀ e ∈ es, Region.binds .any e = true → e.on < i := by
        intro es
        induction es with
        | nil => intro _ e he; cases he
        | cons y es ih =>
          intro hd e he hb
          simp only [downE, Bool.and_eq_true, Bool.or_eq_true, Bool.not_eq_true', Nat.blt_eq] at hd
          rcases List.mem_cons.1 he with rfl | he
          · rcases hd.1 with h0 | h0
            · rw [h0] at hb; cases hb
            · exact h0
          · exact ih hd.2 e he hb
      exact key h.1
    | succ j =>
      intro e he hb
      have := downL_spec h.2 j o (by simpa using ho) e he hb
      simp only [Nat.succ_eq_add_one] at this
      omega

theorem tmpRow_spec {all : List Oper} {bf : List Nat} {j : Nat} {y : Oper} : ∀ {l : List Oper} {i : Nat}, tmpRow all bf j y i l = true → ∀ k x, l[k]? = some x → i + k < j → clash all x y = true → bit bf j (i + k) = true
  | [], i, h, k, x, hx => by simp at hx
  | z :: l, i, h, k, x, hx => by
    intro hlt hcl
    unfold tmpRow at h
    have : Nat.blt i j = true := by rw [Nat.blt_eq]; omega
    rw [this, cond_true, Bool.and_eq_true, Bool.or_eq_true, Bool.not_eq_true'] at h
    cases k with
    | zero =>
      simp only [List.getElem?_cons_zero, Option.some.injEq] at hx
      subst hx
      rcases h.1 with h0 | h0
      · rw [h0] at hcl; cases hcl
      · exact h0
    | succ k =>
      have := tmpRow_spec h.2 k x (by simpa using hx) (by simp only [Nat.succ_eq_add_one]; omega) hcl
      rw [show i + (k + 1) = Nat.succ i + k by simp only [Nat.succ_eq_add_one]; omega]; exact this
theorem tmpRows_spec {all : List Oper} {bf : List Nat} : ∀ {l : List Oper} {j : Nat}, tmpRows all bf j l = true → ∀ k y, l[k]? = some y → ∀ i x, all[i]? = some x → i < j + k → clash all x y = true → bit bf (j + k) i = true
  | [], j, h, k, y, hy => by simp at hy
  | z :: l, j, h, k, y, hy => by
    intro i x hx hlt hcl
    simp only [tmpRows, Bool.and_eq_true] at h
    cases k with
    | zero =>
      simp only [List.getElem?_cons_zero, Option.some.injEq] at hy
      subst hy
      have := tmpRow_spec h.1 i x hx (by simpa using hlt) hcl
      simpa using this
    | succ k =>
      have := tmpRows_spec h.2 k y (by simpa using hy) i x hx (by simp only [Nat.succ_eq_add_one]; omega) hcl
      rw [show j + (k + 1) = Nat.succ j + k by simp only [Nat.succ_eq_add_one]; omega]; exact this
theorem dstLt_spec {n : Nat} : ∀ {l : List Oper}, dstLt n l = true → ∀ o ∈ l, ∀ d, o.dst = some d → d < n
  | [], h, o, ho => by cases ho
  | x :: l, h, o, ho => by
    intro d hd
    simp only [dstLt, Bool.and_eq_true] at h
    rcases List.mem_cons.1 ho with rfl | ho
    · have := h.1
      rw [hd] at this
      simpa [Nat.blt_eq] using this
    · exact dstLt_spec h.2 o ho d hd

/-! The chain. -/
theorem chainOk_spec {all : List Oper} {D : Nat → Prop} (hD : Closed all D) : ∀ {sn : List Snap}, chainOk (bfL all) sn = true → sn.Pairwise (fun x y => D x.at_ → D y.at_)
  | [], _ => .nil
  | [x], _ => List.pairwise_singleton _ _
  | x :: y :: l, h => by
    simp only [chainOk, Bool.and_eq_true] at h
    have ih := chainOk_spec hD (sn := y :: l) h.2
    have hxy : D x.at_ → D y.at_ := bit_closed hD _ _ h.1
    refine List.pairwise_cons.2 ⟨fun z hz => ?_, ih⟩
    rcases List.mem_cons.1 hz with rfl | hz
    · exact hxy
    · exact fun hx => (List.pairwise_cons.1 ih).1 z hz (hxy hx)

theorem pairwise_lt {R : Nat → Nat → Prop} : ∀ {l : List Nat}, l.Pairwise (fun x y => x < y) → l.Pairwise R → ∀ a ∈ l, ∀ b ∈ l, a < b → R a b
  | [], _, _, a, ha => by cases ha
  | x :: l, h1, h2, a, ha => by
    intro b hb hlt
    obtain ⟨p1, p2⟩ := List.pairwise_cons.1 h1
    obtain ⟨q1, q2⟩ := List.pairwise_cons.1 h2
    rcases List.mem_cons.1 ha with ea | ha'
    · rcases List.mem_cons.1 hb with eb | hb'
      · omega
      · rw [ea]; exact q1 b hb'
    · rcases List.mem_cons.1 hb with eb | hb'
      · have := p1 a ha'; omega
      · exact pairwise_lt p2 q2 a ha' b hb' hlt

theorem chain_rows {all : List Oper} {D : Nat → Prop} (hD : Closed all D) {S : Nat → St} {cr : List Nat} (hs : cr.Pairwise (· < ·)) (h : chainOk (bfL all) (cr.reverse.map fun j => ⟨j, S j⟩) = true) :
    ∀ a ∈ cr, ∀ b ∈ cr, a < b → D b → D a := by
  have h1 := chainOk_spec hD h
  rw [List.pairwise_map, List.pairwise_reverse] at h1
  exact pairwise_lt hs h1

/-! The reads. -/
theorem ldOk_spec {bf : List Nat} {x : Ld} {S : Nat → St} {n : Nat} : ∀ {cr : List Nat}, cr.Pairwise (· < ·) → (∀ c ∈ cr, c < n) → ldOk P bf x (S n) (cr.map fun j => ⟨j, S j⟩) = true →
    ∀ p, (p = n ∨ p ∈ cr) → (∀ c ∈ cr, c < p → bit bf c x.at_ = false) → (p ∈ cr → bit bf x.at_ p = false) → seesIt P x (S p) = true
  | [], _, _, h, p, hp, _, _ => by
    rcases hp with rfl | hp
    · exact h
    · cases hp
  | c :: l, hs, hn, h, p, hp, h1, h2 => by
    obtain ⟨p1, p2⟩ := List.pairwise_cons.1 hs
    simp only [List.map_cons, ldOk, Bool.and_eq_true] at h
    by_cases hpc : p = c
    · subst hpc
      have := h2 (by simp)
      rw [this, cond_false] at h
      exact h.1
    · have hlt : c < p := by
        rcases hp with rfl | hp
        · exact hn c (by simp)
        · rcases List.mem_cons.1 hp with rfl | hp
          · exact absurd rfl hpc
          · exact p1 p hp
      have := h1 c (by simp) hlt
      rw [this, cond_false] at h
      refine ldOk_spec p2 (fun d hd => hn d (by simp [hd])) h.2 p ?_ (fun d hd => h1 d (by simp [hd])) (fun hd => h2 (by simp [hd]))
      rcases hp with rfl | hp
      · exact .inl rfl
      · rcases List.mem_cons.1 hp with rfl | hp
        · exact absurd rfl hpc
        · exact .inr hp
end
end Go.Ev
