/- A drawn region: the memory of its phases. -/
import Derived.Test.YtcbhnjlbolafpabGreatDoorEvZC
set_option linter.unusedSimpArgs false
set_option linter.unusedVariables false
namespace Go.Ev
section
variable {P : Program} {r : R} {ro : Option Nat} {ops : List Oper} {A : Nat → Act} {S : Nat → St} {ld : List Ld} {cr : List Nat}

theorem Reg.lt (g : Reg P r ro ops A S ld cr) {c : Nat} (h : c ∈ cr) : c < ops.length := by
  obtain ⟨o, ho, _⟩ := (g.crM c).1 h
  exact (List.getElem?_eq_some_iff.1 ho).1

theorem Reg.size1 (g : Reg P r ro ops A S ld cr) {j : Nat} (hj : j < ops.length) : (A (j + 1)).size = (A j).size := by
  have ho : ops[j]? = some ops[j] := List.getElem?_eq_getElem hj
  rcases g.row j _ ho with ⟨_, h, _⟩ | ⟨_, out, _, h, _⟩
  · rw [h]; exact Act.put_size _ _ _
  · exact (doOut_act h).2.1
theorem Reg.size (g : Reg P r ro ops A S ld cr) : ∀ {j : Nat}, j ≤ ops.length → (A j).size = (A 0).size
  | 0, _ => rfl
  | j + 1, hj => by rw [g.size1 (by omega)]; exact g.size (by omega)

theorem Reg.next1 (g : Reg P r ro ops A S ld cr) (hnx : NxR r) {j : Nat} (hj : j < ops.length) : (S j).next ≤ (S (j + 1)).next := by
  have ho : ops[j]? = some ops[j] := List.getElem?_eq_getElem hj
  rcases g.row j _ ho with ⟨_, _, h⟩ | ⟨_, out, ho, h, _⟩
  · rw [h]; exact Nat.le_refl _
  · exact doOut_nx hnx _ _ _ _ _ (fun v s' e => by subst e; exact execA_nx _ _ _ _ _ ho) _ _ _ h
theorem Reg.next (g : Reg P r ro ops A S ld cr) (hnx : NxR r) {i : Nat} : ∀ {j : Nat}, i ≤ j → j ≤ ops.length → (S i).next ≤ (S j).next := by
  intro j hij
  induction hij with
  | refl => intro _; exact Nat.le_refl _
  | step h ih => intro hj; exact Nat.le_trans (ih (by omega)) (g.next1 hnx (by simp at hj; omega))

/-- a row that is no member of the chain -/
inductive Kind (P : Program) (ops : List Oper) (ld : List Ld) (o : Oper) (j : Nat) (a : Act) (s : St) (v : V) (s' : St) : Prop
  | off : wantedA ops a o.guard = false → v = undef → s' = s → Kind P ops ld o j a s v s'
  | read : wantedA ops a o.guard = true → ⟨j, o.op, a, v⟩ ∈ ld → readsO P o.op = true → isChain P o.op = false → s' = s → Kind P ops ld o j a s v s'
  | pure : wantedA ops a o.guard = true → (∀ s2, execA P a s2 o.op = some (.val v s2)) → s' = s → Kind P ops ld o j a s v s'
  | make (x : Blk) (b : Nat) : wantedA ops a o.guard = true → x.live → s.new x = some (b, s') →
      (∀ s2 : St, s2.next = s.next → ∃ s2', s2.new x = some (b, s2') ∧ execA P a s2 o.op = some (.val v s2')) → Kind P ops ld o j a s v s'

theorem Reg.kind (g : Reg P r ro ops A S ld cr) {j : Nat} {o : Oper} (ho : ops[j]? = some o) (hj : j ∉ cr) :
    ∃ v, A (j + 1) = (A j).put o.dst v ∧ Kind P ops ld o j (A j) (S j) v (S (j + 1)) := by
  rcases g.row j _ ho with ⟨hw, h1, h2⟩ | ⟨hw, out, hout, hdo, hrd⟩
  · exact ⟨undef, h1, .off hw rfl h2⟩
  · have hc : isChain P o.op = false := by
      cases hc : isChain P o.op with
      | false => rfl
      | true => exact absurd ((g.crM j).2 ⟨o, ho, hw, hc⟩) hj
    cases hr : readsO P o.op with
    | true =>
      obtain ⟨v, s1, rfl, hm⟩ := hrd hr hc
      obtain ⟨v', e⟩ := read_sound hc hr hout
      cases e
      simp only [doOut, Option.some.injEq, Prod.mk.injEq, true_and] at hdo
      exact ⟨v, hdo.1.symm, .read hw hm hr hc hdo.2.symm⟩
    | false =>
      rcases ind_sound (P := P) (a := A j) hc hr (S j) out hout with ⟨v, rfl, hall⟩ | ⟨v, x, b, s', hx, hn, rfl, hall⟩
      · simp only [doOut, Option.some.injEq, Prod.mk.injEq, true_and] at hdo
        exact ⟨v, hdo.1.symm, .pure hw hall hdo.2.symm⟩
      · simp only [doOut, Option.some.injEq, Prod.mk.injEq, true_and] at hdo
        exact ⟨v, hdo.1.symm, .make x b hw hx (hdo.2 ▸ hn) hall⟩
end
end Go.Ev
