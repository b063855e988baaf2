/- A drawn region: its slots, whatever rows have been done. -/
import Derived.Test.YtcbhnjlbolafpabGreatDoorEvZE
set_option linter.unusedSimpArgs false
set_option linter.unusedVariables false
namespace Go.Ev
section
variable {P : Program} {r : R} {ro : Option Nat} {ops : List Oper} {A : Nat → Act} {S : Nat → St} {ld : List Ld} {cr : List Nat}

/-- what lies in slot t when the rows of D have been done -/
def Last (ops : List Oper) (A : Nat → Act) (D : Nat → Prop) (t : Nat) (v : V) : Prop :=
  (∃ i o, ops[i]? = some o ∧ D i ∧ o.dst = some t ∧ (∀ (i' : Nat) (o' : Oper), ops[i']? = some o' → i < i' → D i' → o'.dst ≠ some t) ∧ v = (A (i + 1)).get t) ∨
  ((∀ (i : Nat) (o : Oper), ops[i]? = some o → D i → o.dst ≠ some t) ∧ v = (A 0).get t)

theorem Reg.act1 (g : Reg P r ro ops A S ld cr) {j : Nat} {o : Oper} (ho : ops[j]? = some o) : ∃ v, ∀ t, (A (j + 1)).get t = ((A j).put o.dst v).get t := by
  rcases g.row j _ ho with ⟨_, h, _⟩ | ⟨_, out, _, h, _⟩
  · exact ⟨undef, fun t => by rw [h]⟩
  · exact (doOut_act h).1

theorem Reg.put_get (g : Reg P r ro ops A S ld cr) (hs : (A 0).size ≤ TN) {j : Nat} {o : Oper} (ho : ops[j]? = some o) {a : Act} (ha : a.size = (A 0).size) (v : V) (t : Nat) :
    (a.put o.dst v).get t = if o.dst = some t then v else a.get t := by
  cases hd : o.dst with
  | none => simp [Act.put]
  | some d =>
    have := g.dst j o ho d hd
    rw [Act.get_put (by rw [ha]; exact this) (by rw [ha]; exact hs)]
    by_cases e : t = d
    · rw [if_pos e, if_pos (by rw [e])]
    · rw [if_neg e, if_neg (fun h => e (by cases h; rfl))]

theorem Reg.last_row (g : Reg P r ro ops A S ld cr) (hs : (A 0).size ≤ TN) (t : Nat) : ∀ {j : Nat}, j ≤ ops.length → Last ops A (· < j) t ((A j).get t)
  | 0, _ => .inr ⟨fun i o _ h => by omega, rfl⟩
  | j + 1, hj => by
    have ho : ops[j]? = some ops[j] := List.getElem?_eq_getElem (by omega)
    obtain ⟨v, hv⟩ := g.act1 ho
    by_cases hd : ops[j].dst = some t
    · exact .inl ⟨j, _, ho, by simp, hd, fun i' o' _ h1 h2 => by omega, rfl⟩
    · have e : (A (j + 1)).get t = (A j).get t := by rw [hv t, g.put_get hs ho (g.size (by omega)), if_neg hd]
      rw [e]
      rcases g.last_row hs t (j := j) (by omega) with ⟨i, o, h1, h2, h3, h4, h5⟩ | ⟨h1, h2⟩
      · refine .inl ⟨i, o, h1, by simp at h2 ⊢; omega, h3, fun i' o' q1 q2 q3 => ?_, h5⟩
        by_cases e' : i' = j
        · subst e'; rw [ho] at q1; cases q1; exact hd
        · exact h4 i' o' q1 q2 (by simp at q3; omega)
      · refine .inr ⟨fun i o q1 q2 => ?_, h2⟩
        by_cases e' : i = j
        · subst e'; rw [ho] at q1; cases q1; exact hd
        · exact h1 i o q1 (by simp at q2; omega)

theorem maskT_mem {t : Tmp} : ∀ {l : List Tmp}, t ∈ l → (maskT l).testBit t = true
  | u :: l, h => by
    show Nat.testBit (2 ^ u ||| maskT l) t = true
    rw [Nat.testBit_or]
    rcases List.mem_cons.1 h with rfl | h
    · rw [Nat.testBit_two_pow_self]; rfl
    · rw [maskT_mem h]; simp
theorem clash_bit {x y : Oper} {t : Tmp} (h : (Nat.lor (Nat.land (dMask x) (Nat.lor (dMask y) (lMask ops y))) (Nat.land (dMask y) (lMask ops x))).testBit t = true) : clash ops x y = true := by
  unfold clash
  cases hb : Nat.beq (Nat.lor (Nat.land (dMask x) (Nat.lor (dMask y) (lMask ops y))) (Nat.land (dMask y) (lMask ops x))) 0 with
  | false => rfl
  | true =>
    rw [Nat.eq_of_beq_eq_true hb] at h
    simp at h
theorem dMask_bit {x : Oper} {t : Tmp} (hx : x.dst = some t) : (dMask x).testBit t = true := by
  unfold dMask; rw [hx]; exact maskT_mem (by simp)
theorem clash_look {x y : Oper} {t : Tmp} (hx : x.dst = some t) (hy : t ∈ looks ops y) : clash ops x y = true := by
  refine clash_bit (t := t) ?_
  show Nat.testBit ((dMask x &&& (dMask y ||| lMask ops y)) ||| (dMask y &&& lMask ops x)) t = true
  have h2 : (lMask ops y).testBit t = true := maskT_mem hy
  rw [Nat.testBit_or, Nat.testBit_and, Nat.testBit_or, dMask_bit hx, h2]; simp
theorem clash_look' {x y : Oper} {t : Tmp} (hy : y.dst = some t) (hx : t ∈ looks ops x) : clash ops x y = true := by
  refine clash_bit (t := t) ?_
  show Nat.testBit ((dMask x &&& (dMask y ||| lMask ops y)) ||| (dMask y &&& lMask ops x)) t = true
  have h2 : (lMask ops x).testBit t = true := maskT_mem hx
  rw [Nat.testBit_or, Nat.testBit_and (dMask y), dMask_bit hy, h2]; simp
theorem clash_dst {x y : Oper} {t : Tmp} (hx : x.dst = some t) (hy : y.dst = some t) : clash ops x y = true := by
  refine clash_bit (t := t) ?_
  show Nat.testBit ((dMask x &&& (dMask y ||| lMask ops y)) ||| (dMask y &&& lMask ops x)) t = true
  rw [Nat.testBit_or, Nat.testBit_and, Nat.testBit_or, dMask_bit hx, dMask_bit hy]; simp

def Plus (D : Nat → Prop) (j : Nat) : Nat → Prop := fun i => i = j ∨ D i

theorem Reg.agree (g : Reg P r ro ops A S ld cr) (hs : (A 0).size ≤ TN) {D : Nat → Prop} (hD : Closed ops D) {j : Nat} {o : Oper} (ho : ops[j]? = some o) (hj : ¬ D j) (hD' : Closed ops (Plus D j)) {t : Nat} (ht : t ∈ looks ops o) {v : V} (hv : Last ops A D t v) :
    v = (A j).get t := by
  have hlt : j < ops.length := (List.getElem?_eq_some_iff.1 ho).1
  have big : ∀ (i : Nat) (o' : Oper), ops[i]? = some o' → D i → o'.dst = some t → i < j := fun i o' q1 q2 q3 => by
    rcases Nat.lt_trichotomy i j with h | h | h
    · exact h
    · subst h; exact absurd q2 hj
    · exact absurd (bit_closed hD _ _ (g.tmp j i o o' ho q1 h (clash_look' q3 ht)) q2) hj
  rcases g.last_row hs t (j := j) (by omega) with ⟨i, oi, h1, h2, h3, h4, h5⟩ | ⟨h1, h2⟩
  · have h2 : i < j := h2
    have hi : D i := by
      have := bit_closed hD' _ _ (g.tmp i j oi o h1 ho h2 (clash_look h3 ht)) (.inl rfl)
      rcases this with e | e
      · omega
      · exact e
    rcases hv with ⟨i2, o2, q1, q2, q3, q4, q5⟩ | ⟨q1, q2⟩
    · have b := big i2 o2 q1 q2 q3
      have : i2 = i := by
        rcases Nat.lt_trichotomy i2 i with h | h | h
        · exact absurd h3 (q4 i oi h1 h hi)
        · exact h
        · exact absurd q3 (h4 i2 o2 q1 h b)
      subst this
      rw [q5, h5]
    · exact absurd h3 (q1 i oi h1 hi)
  · rcases hv with ⟨i2, o2, q1, q2, q3, q4, q5⟩ | ⟨q1, q2⟩
    · exact absurd q3 (h1 i2 o2 q1 (big i2 o2 q1 q2 q3))
    · rw [q2, h2]

theorem Reg.last_put (g : Reg P r ro ops A S ld cr) (hs : (A 0).size ≤ TN) {D : Nat → Prop} (hD : Closed ops D) {j : Nat} {o : Oper} (ho : ops[j]? = some o) (hj : ¬ D j) {v : V} (hv : ∀ t, (A (j + 1)).get t = ((A j).put o.dst v).get t) {a a' : Act}
    (ha : a.size = (A 0).size) (hl : ∀ t, Last ops A D t (a.get t)) (ha' : ∀ t, a'.get t = (a.put o.dst v).get t) (t : Nat) : Last ops A (Plus D j) t (a'.get t) := by
  have hlt : j < ops.length := (List.getElem?_eq_some_iff.1 ho).1
  rw [ha', g.put_get hs ho ha]
  by_cases hd : o.dst = some t
  · rw [if_pos hd]
    refine .inl ⟨j, o, ho, .inl rfl, hd, fun i' o' q1 q2 q3 q4 => ?_, ?_⟩
    · rcases q3 with e | q3
      · omega
      · exact hj (bit_closed hD _ _ (g.tmp j i' o o' ho q1 q2 (clash_dst hd q4)) q3)
    · rw [hv, g.put_get hs ho (g.size (by omega)), if_pos hd]
  · rw [if_neg hd]
    rcases hl t with ⟨i, oi, h1, h2, h3, h4, h5⟩ | ⟨h1, h2⟩
    · refine .inl ⟨i, oi, h1, .inr h2, h3, fun i' o' q1 q2 q3 => ?_, h5⟩
      rcases q3 with e | q3
      · subst e; rw [ho] at q1; cases q1; exact hd
      · exact h4 i' o' q1 q2 q3
    · refine .inr ⟨fun i oi q1 q2 => ?_, h2⟩
      rcases q2 with e | q2
      · subst e; rw [ho] at q1; cases q1; exact hd
      · exact h1 i oi q1 q2

theorem tmpsOf_mem {t : Tmp} : ∀ {l : List Operand}, Operand.tmp t ∈ l → t ∈ tmpsOf l
  | x :: l, h => by
    rcases List.mem_cons.1 h with rfl | h
    · simp [tmpsOf]
    · have := tmpsOf_mem h
      cases x <;> simp [tmpsOf, this]

theorem Reg.same_eval (g : Reg P r ro ops A S ld cr) (hs : (A 0).size ≤ TN) {D : Nat → Prop} (hD : Closed ops D) {j : Nat} {o : Oper} (ho : ops[j]? = some o) (hj : ¬ D j) (hD' : Closed ops (Plus D j)) {a : Act} (hl : ∀ t, Last ops A D t (a.get t)) :
    (∀ x ∈ o.op.operands.toList, a.eval x = (A j).eval x) ∧ wantedA ops a o.guard = wantedA ops (A j) o.guard := by
  refine ⟨fun x hx => ?_, ?_⟩
  · cases x with
    | tmp t =>
      simp only [Act.eval]
      rw [g.agree hs hD ho hj hD' (List.mem_append_right _ (tmpsOf_mem hx)) (hl t)]
    | _ => rfl
  · unfold wantedA
    cases hg : o.guard with
    | none => rfl
    | some q =>
      obtain ⟨k, w⟩ := q
      have : yieldedA ops a k = yieldedA ops (A j) k := by
        unfold yieldedA
        cases hk : (ops.drop k).head? with
        | none => rfl
        | some ok =>
          simp only [Option.bind_some]
          cases hd : ok.dst with
          | none => rfl
          | some d =>
            simp only [Option.bind_some]
            rw [g.agree hs hD ho hj hD' (t := d) (List.mem_append_left _ ?_) (hl d)]
            rw [hg]
            simp [guardTmp, hk, hd]
      simp only [this]
end
end Go.Ev
