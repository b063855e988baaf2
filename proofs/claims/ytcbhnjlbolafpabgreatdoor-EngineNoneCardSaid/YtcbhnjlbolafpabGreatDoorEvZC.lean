/- A drawn region: its rows, the phases of memory. -/
import Derived.Test.YtcbhnjlbolafpabGreatDoorEvZB
set_option linter.unusedSimpArgs false
set_option linter.unusedVariables false
namespace Go.Ev

structure Reg (P : Program) (r : R) (ro : Option Nat) (ops : List Oper) (A : Nat → Act) (S : Nat → St) (ld : List Ld) (cr : List Nat) : Prop where
  row : ∀ (j : Nat) (o : Oper), ops[j]? = some o → RowOk P r ro ops ld o j (A j) (S j) (A (j + 1)) (S (j + 1))
  crS : cr.Pairwise (· < ·)
  crM : ∀ c : Nat, c ∈ cr ↔ ∃ o : Oper, ops[c]? = some o ∧ wantedA ops (A c) o.guard = true ∧ isChain P o.op = true
  down : ∀ (j : Nat) (o : Oper), ops[j]? = some o → ∀ e ∈ o.after.toList, Region.binds .any e = true → e.on < j
  tmp : ∀ (i j : Nat) (x y : Oper), ops[i]? = some x → ops[j]? = some y → i < j → clash ops x y = true → bit (bfL ops) j i = true
  dst : ∀ (j : Nat) (o : Oper), ops[j]? = some o → ∀ d, o.dst = some d → d < (A 0).size
  chain : ∀ D : Nat → Prop, Closed ops D → ∀ a ∈ cr, ∀ b ∈ cr, a < b → D b → D a
  reads : ∀ x ∈ ld, ldOk P (bfL ops) x (S ops.length) (cr.map fun j => ⟨j, S j⟩) = true

section
variable {P : Program} {r : R} {ro : Option Nat} {ops : List Oper} {A : Nat → Act} {S : Nat → St} {ld : List Ld} {cr : List Nat}

theorem reg_of {a a' : Act} {s s' : St} {sn : List Snap} (h : drawF P r ro ops ops 0 [] [] a s = some (a', s', sn, ld)) (hok : drawOk ops (bfL ops) a.size = true) (hch : chainOk (bfL ops) sn = true)
    (hld : ld.all (fun x => ldOk P (bfL ops) x s' sn.reverse) = true) :
    ∃ A S cr, A 0 = a ∧ S 0 = s ∧ A ops.length = a' ∧ S ops.length = s' ∧ Reg P r ro ops A S ld cr := by
  obtain ⟨A, S, h1, h2, h3, h4, h5, ⟨cr, c1, c2, c3⟩, h6⟩ := trace h
  simp only [Nat.zero_add] at h3 h4 h5 c3
  rw [List.append_nil] at c1
  simp only [drawOk, Bool.and_eq_true] at hok
  refine ⟨A, S, cr, h1, h2, h3, h4, h5, c2, fun c => ?_, fun j o ho e he hb => ?_, fun i j x y hx hy hlt hcl => ?_, fun j o ho d hd => ?_, fun D hD => ?_, fun x hx => ?_⟩
  · rw [c3]
    constructor
    · rintro ⟨j, o, rfl, q⟩; exact ⟨o, q⟩
    · rintro ⟨o, q⟩; exact ⟨c, o, rfl, q⟩
  · have := downL_spec hok.1.1 j o ho e he hb
    omega
  · have := tmpRows_spec hok.1.2 j y hy i x hx (by omega) hcl
    simpa using this
  · rw [h1]
    exact dstLt_spec hok.2 o (List.mem_of_getElem? ho) d hd
  · rw [c1] at hch
    exact chain_rows hD c2 hch
  · have := List.all_eq_true.1 hld x hx
    rw [c1] at this
    rw [h4]
    simpa [← List.map_reverse] using this

theorem Act.put_size (a : Act) (d : Option Tmp) (v : V) : (a.put d v).size = a.size := by
  cases d with
  | none => rfl
  | some d => simp only [Act.put]; cases Nat.blt d a.size <;> rfl
theorem Act.get_put {a : Act} {d : Tmp} (hd : d < a.size) (hs : a.size ≤ TN) (v : V) (t : Nat) : (a.put (some d) v).get t = if t = d then v else a.get t := by
  have hb : Nat.blt d a.size = true := by rw [Nat.blt_eq]; exact hd
  have hp : d < 4 ^ TD := Nat.lt_of_lt_of_le hd hs
  simp only [Act.put, hb, cond_true, Act.get, T.get_set]
  by_cases e : t = d
  · rw [if_pos ⟨hp, e⟩, if_pos e]; rfl
  · rw [if_neg (fun h => e h.2), if_neg e]

/-- what an operation does to the activation: its slot, and (a chain's) the deferred calls -/
theorem doOut_act {a : Act} {d : Option Tmp} {s : St} {out : Out} {a' : Act} {s' : St} (h : doOut r ro a d s out = some (.norm, a', s')) :
    (∃ v, ∀ t, a'.get t = (a.put d v).get t) ∧ a'.size = a.size ∧ ∀ b : Act, b.size = a.size → b.defers = a.defers → b.rc = a.rc →
      ∃ b', doOut r ro b d s out = some (.norm, b', s') ∧ b'.size = b.size ∧ b'.defers = a'.defers ∧ b'.rc = a'.rc ∧ ∀ v, (∀ t, a'.get t = (a.put d v).get t) → (∀ k, d = some k → k < a.size) → a.size ≤ TN → ∀ t, b'.get t = (b.put d v).get t := by
  have put : ∀ v, a' = a.put d v → (∃ v, ∀ t, a'.get t = (a.put d v).get t) ∧ a'.size = a.size ∧ ∀ b : Act, b.size = a.size → b.defers = a.defers → b.rc = a.rc → ∀ x : Res, x = some (.norm, b.put d v, s') →
      ∃ b', x = some (.norm, b', s') ∧ b'.size = b.size ∧ b'.defers = a'.defers ∧ b'.rc = a'.rc ∧ ∀ v, (∀ t, a'.get t = (a.put d v).get t) → (∀ k, d = some k → k < a.size) → a.size ≤ TN → ∀ t, b'.get t = (b.put d v).get t := by
    rintro v rfl
    refine ⟨⟨v, fun _ => rfl⟩, Act.put_size _ _ _, fun b h1 h2 h3 x hx => ⟨_, hx, Act.put_size _ _ _, by rw [Act.put_defers, Act.put_defers, h2], by rw [Act.put_rc, Act.put_rc, h3], ?_⟩⟩
    intro v2 hv2 hk hs t
    cases d with
    | none => rfl
    | some k =>
      have hk := hk k rfl
      have := hv2 k
      rw [Act.get_put hk hs, Act.get_put hk hs, if_pos rfl, if_pos rfl] at this
      rw [this]
  have putR : ∀ v (a0 : Act), a0.size = a.size → a' = a0.put d v → True := fun _ _ _ _ => trivial
  cases out with
  | val v s1 =>
    cases h
    obtain ⟨p1, p2, p3⟩ := put v rfl
    exact ⟨p1, p2, fun b h1 h2 h3 => p3 b h1 h2 h3 _ rfl⟩
  | dfr e =>
    simp only [doOut] at h ⊢
    cases hro : ro.isSome with
    | true => rw [hro, cond_true] at h; cases h
    | false =>
      rw [hro, cond_false] at h
      cases h
      refine ⟨⟨undef, fun t => ?_⟩, Act.put_size _ _ _, fun b h1 h2 h3 => ⟨_, rfl, Act.put_size _ _ _, ?_, ?_, ?_⟩⟩
      · cases d with
        | none => rfl
        | some k => simp only [Act.put, deferA]; cases Nat.blt k a.size <;> rfl
      · simp only [Act.put_defers, deferA, h2]
      · simp only [Act.put_rc, deferA, h3]
      · intro v2 hv2 hk hs t
        cases d with
        | none => rfl
        | some k =>
          have hk := hk k rfl
          have := hv2 k
          rw [Act.get_put hk hs, Act.get_put (a := deferA a e) hk hs, if_pos rfl, if_pos rfl] at this
          rw [Act.get_put (a := deferA b e) (by show k < b.size; rw [h1]; assumption) (by show b.size ≤ TN; rw [h1]; exact hs), Act.get_put (a := b) (by rw [h1]; exact hk) (by rw [h1]; exact hs), this]
          rfl
  | rcv =>
    simp only [doOut] at h ⊢
    cases hro : ro.isSome with
    | true => rw [hro, cond_true] at h; cases h
    | false =>
      rw [hro, cond_false] at h
      cases h
      have key : ∃ v rc', (∀ b : Act, b.rc = a.rc → recoverA b d b.rc = Act.put ⟨b.tmps, b.size, b.defers, rc'⟩ d v) := by
        cases hrc : a.rc with
        | none => exact ⟨.nili, none, fun b hb => by obtain ⟨bt, bn, bd, brc⟩ := b; simp only at hb; subst hb; rfl⟩
        | some l =>
          cases l with
          | nil => exact ⟨.nili, some [], fun b hb => by obtain ⟨bt, bn, bd, brc⟩ := b; simp only at hb; subst hb; rfl⟩
          | cons p l =>
            obtain ⟨v, rcv⟩ := p
            cases rcv with
            | true => exact ⟨.nili, some (⟨v, true⟩ :: l), fun b hb => by obtain ⟨bt, bn, bd, brc⟩ := b; simp only at hb; subst hb; rfl⟩
            | false => exact ⟨v, some (⟨v, true⟩ :: l), fun b hb => by obtain ⟨bt, bn, bd, brc⟩ := b; simp only at hb; subst hb; rfl⟩
      obtain ⟨v, rc', hk⟩ := key
      rw [hk a rfl]
      refine ⟨⟨v, fun t => ?_⟩, Act.put_size _ _ _, fun b h1 h2 h3 => ⟨Act.put ⟨b.tmps, b.size, b.defers, rc'⟩ d v, by simp only [cond_false]; rw [hk b h3], Act.put_size _ _ _, ?_, ?_, ?_⟩⟩
      · cases d with
        | none => rfl
        | some k => simp only [Act.put]; cases Nat.blt k a.size <;> rfl
      · simp only [Act.put_defers, h2]
      · simp only [Act.put_rc]
      · intro v2 hv2 hk' hs t
        cases d with
        | none => rfl
        | some k =>
          have hk' := hk' k rfl
          have := hv2 k
          rw [Act.get_put hk' hs, Act.get_put (a := ⟨a.tmps, a.size, a.defers, rc'⟩) hk' hs, if_pos rfl, if_pos rfl] at this
          rw [Act.get_put (a := ⟨b.tmps, b.size, b.defers, rc'⟩) (by show k < b.size; rw [h1]; assumption) (by show b.size ≤ TN; rw [h1]; exact hs), Act.get_put (a := b) (by rw [h1]; exact hk') (by rw [h1]; exact hs), this]
          rfl
  | call f args =>
    simp only [doOut] at h ⊢
    cases hc : dropRc (r.call f args none s) with
    | none => rw [hc] at h; cases h
    | some q =>
      obtain ⟨e, s1⟩ := q
      rw [hc] at h
      cases e with
      | pan ch => cases h
      | ret v =>
        cases h
        obtain ⟨p1, p2, p3⟩ := put v rfl
        exact ⟨p1, p2, fun b h1 h2 h3 => p3 b h1 h2 h3 _ (by simp only [endO])⟩
  | yield l args =>
    simp only [doOut] at h ⊢
    cases hc : r.round l args s with
    | none => rw [hc] at h; cases h
    | some q =>
      obtain ⟨e, s1⟩ := q
      rw [hc] at h
      cases e with
      | pan ch => cases h
      | ret v =>
        cases h
        obtain ⟨p1, p2, p3⟩ := put v rfl
        exact ⟨p1, p2, fun b h1 h2 h3 => p3 b h1 h2 h3 _ (by simp only [endO])⟩
  | pan v => cases h
end
end Go.Ev
