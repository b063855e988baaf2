/- A drawn region: memory from one member of the chain to the next. -/
import Derived.Test.YtcbhnjlbolafpabGreatDoorEvZD
set_option linter.unusedSimpArgs false
set_option linter.unusedVariables false
namespace Go.Ev
section
variable {P : Program} {r : R} {ro : Option Nat} {ops : List Oper} {A : Nat → Act} {S : Nat → St} {ld : List Ld} {cr : List Nat}

/-- the block that a row outside the chain makes -/
def Init (ops : List Oper) (S : Nat → St) (cr : List Nat) (b : Nat) (x : Blk) : Prop := x.live ∧ ∃ j, j < ops.length ∧ j ∉ cr ∧ (S j).new x = some (b, S (j + 1))

theorem new_inj {s s' s2 : St} {x y : Blk} {b c : Nat} (h : s.new x = some (b, s')) (h' : s.new y = some (c, s2)) (e : s' = s2) : x = y ∧ b = c := by
  subst e
  obtain ⟨rfl, _, _, g1⟩ := St.new_spec h
  obtain ⟨rfl, _, _, g2⟩ := St.new_spec h'
  have h1 := g1 s.next
  have h2 := g2 s.next
  rw [if_pos rfl] at h1 h2
  rw [h1] at h2
  exact ⟨Option.some.inj h2, rfl⟩

theorem Reg.quiet1 (g : Reg P r ro ops A S ld cr) {j : Nat} (hj : j < ops.length) (hc : j ∉ cr) :
    (∀ b, b < (S j).next ∨ (S (j + 1)).next ≤ b → (S (j + 1)).get b = (S j).get b) ∧
    (∀ b, (S j).next ≤ b → b < (S (j + 1)).next → ∃ x, x.live ∧ (S j).new x = some (b, S (j + 1)) ∧ (S (j + 1)).get b = some x) ∧
    (A (j + 1)).defers = (A j).defers ∧ (A (j + 1)).rc = (A j).rc := by
  have ho : ops[j]? = some ops[j] := List.getElem?_eq_getElem hj
  obtain ⟨v, hA, hk⟩ := g.kind ho hc
  have hd : (A (j + 1)).defers = (A j).defers ∧ (A (j + 1)).rc = (A j).rc := by rw [hA, Act.put_defers, Act.put_rc]; exact ⟨rfl, rfl⟩
  have same : S (j + 1) = S j → (∀ b, b < (S j).next ∨ (S (j + 1)).next ≤ b → (S (j + 1)).get b = (S j).get b) ∧
    (∀ b, (S j).next ≤ b → b < (S (j + 1)).next → ∃ x, x.live ∧ (S j).new x = some (b, S (j + 1)) ∧ (S (j + 1)).get b = some x) ∧
    (A (j + 1)).defers = (A j).defers ∧ (A (j + 1)).rc = (A j).rc := fun e => by
    rw [e]
    exact ⟨fun _ _ => rfl, fun b h1 h2 => by omega, hd⟩
  cases hk with
  | off _ _ e => exact same e
  | read _ _ _ _ e => exact same e
  | pure _ _ e => exact same e
  | make x b _ hx hn _ =>
    obtain ⟨rfl, h1, h2, h3⟩ := St.new_spec hn
    refine ⟨fun c hc => by rw [h3, if_neg (by omega)], fun c q1 q2 => ?_, hd⟩
    have : c = (S j).next := by omega
    subst this
    exact ⟨x, hx, hn, by rw [h3, if_pos rfl]⟩

theorem Reg.quiet (g : Reg P r ro ops A S ld cr) (hnx : NxR r) {i : Nat} : ∀ {q : Nat}, i ≤ q → q ≤ ops.length → (∀ j, i ≤ j → j < q → j ∉ cr) →
    (∀ b, b < (S i).next ∨ (S q).next ≤ b → (S q).get b = (S i).get b) ∧
    (∀ b, (S i).next ≤ b → b < (S q).next → ∃ x j, x.live ∧ i ≤ j ∧ j < q ∧ (S j).new x = some (b, S (j + 1)) ∧ (S q).get b = some x) ∧
    (A q).defers = (A i).defers ∧ (A q).rc = (A i).rc := by
  intro q hiq
  induction hiq with
  | refl => intro _ _; exact ⟨fun _ _ => rfl, fun b h1 h2 => by omega, rfl, rfl⟩
  | @step q hiq ih =>
    intro hq hc
    have hiq : i ≤ q := hiq
    have hq : q + 1 ≤ ops.length := hq
    obtain ⟨a1, a2, a3, a4⟩ := ih (by omega) (fun j h1 h2 => hc j h1 (by simp; omega))
    obtain ⟨b1, b2, b3, b4⟩ := g.quiet1 (j := q) (by omega) (hc q hiq (by simp))
    have n1 := g.next hnx hiq (by omega)
    have n2 := g.next1 hnx (j := q) (by omega)
    refine ⟨fun b hb => ?_, fun b h1 h2 => ?_, b3.trans a3, b4.trans a4⟩
    · have hb : b < (S i).next ∨ (S (q + 1)).next ≤ b := hb
      show (S (q + 1)).get b = (S i).get b
      rw [b1 b (by omega), a1 b (by omega)]
    · have h2 : b < (S (q + 1)).next := h2
      by_cases hb : b < (S q).next
      · obtain ⟨x, j, hx, j1, j2, j3, j4⟩ := a2 b h1 hb
        exact ⟨x, j, hx, j1, by simp; omega, j3, by show (S (q + 1)).get b = some x; rw [b1 b (.inl hb)]; exact j4⟩
      · obtain ⟨x, hx, j3, j4⟩ := b2 b (by omega) h2
        exact ⟨x, q, hx, hiq, by simp, j3, j4⟩

/-- memory in the phase of row p, with the blocks that later rows outside the chain make -/
def G (ops : List Oper) (S : Nat → St) (cr : List Nat) (p : Nat) (b : Nat) (x : Blk) : Prop :=
  (b < (S p).next ∧ (S p).get b = some x) ∨ ((S p).next ≤ b ∧ Init ops S cr b x)

theorem Reg.G_back (g : Reg P r ro ops A S ld cr) (hnx : NxR r) {i q : Nat} (hiq : i ≤ q) (hq : q ≤ ops.length) (hc : ∀ j, i ≤ j → j < q → j ∉ cr) {b : Nat} {x : Blk} (h : G ops S cr q b x) : G ops S cr i b x := by
  obtain ⟨a1, a2, _⟩ := g.quiet hnx hiq hq hc
  have n1 := g.next hnx hiq hq
  rcases h with ⟨h1, h2⟩ | ⟨h1, h2⟩
  · by_cases hb : b < (S i).next
    · left; exact ⟨hb, by rw [← a1 b (.inl hb)]; exact h2⟩
    · obtain ⟨y, j, hy, j1, j2, j3, j4⟩ := a2 b (by omega) h1
      rw [h2] at j4
      cases j4
      exact .inr ⟨by omega, hy, j, by omega, hc j j1 j2, j3⟩
  · exact .inr ⟨by omega, h2⟩

structure Rg (φ : Phi) (G : Nat → Blk → Prop) (w : World) : Prop where
  blk : ∀ b l x, φ b = some l → G b x → Rb φ w l x
  inj : ∀ b b' l l' x x', φ b = some l → φ b' = some l' → G b x → G b' x' → x.live → x'.live → l.blk = l'.blk → b = b'
  lt : ∀ b l, φ b = some l → l.blk < w.heap.size
theorem Rg.sub {φ : Phi} {G G' : Nat → Blk → Prop} {w : World} (h : Rg φ G w) (hs : ∀ b x, G' b x → G b x) : Rg φ G' w :=
  ⟨fun b l x h1 h2 => h.blk b l x h1 (hs _ _ h2), fun b b' l l' x x' h1 h2 h3 h4 => h.inj b b' l l' x x' h1 h2 (hs _ _ h3) (hs _ _ h4), h.lt⟩

/-- the row that is next in the chain -/
theorem next_chain (g : Reg P r ro ops A S ld cr) : ∀ (k p : Nat), p + k = ops.length → ∃ q, p ≤ q ∧ q ≤ ops.length ∧ (q = ops.length ∨ q ∈ cr) ∧ ∀ j, p ≤ j → j < q → j ∉ cr
  | 0, p, h => ⟨p, Nat.le_refl _, by omega, .inl (by omega), fun j h1 h2 => by omega⟩
  | k + 1, p, h => by
    by_cases hp : p ∈ cr
    · exact ⟨p, Nat.le_refl _, by omega, .inr hp, fun j h1 h2 => by omega⟩
    · obtain ⟨q, h1, h2, h3, h4⟩ := next_chain g k (p + 1) (by omega)
      refine ⟨q, by omega, h2, h3, fun j j1 j2 => ?_⟩
      by_cases e : j = p
      · rw [e]; exact hp
      · exact h4 j (by omega) j2
end
end Go.Ev
