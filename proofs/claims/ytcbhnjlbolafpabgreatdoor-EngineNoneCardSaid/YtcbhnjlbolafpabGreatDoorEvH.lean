/- The operations that only give a value: slicing, building, asking types, maps, methods. -/
import Derived.Test.YtcbhnjlbolafpabGreatDoorEvG
set_option linter.unusedSimpArgs false
set_option linter.unusedVariables false
namespace Go.Ev
section
variable {P : Program}

inductive RO (φ : Phi) : Option V → Option Value → Prop
  | none : RO φ none none
  | some (v : V) (u : Value) : Rv φ v u → RO φ (some v) (some u)
theorem evalO_sound {φ : Phi} {a : Act} {c : Go.Act} (r : Ra φ a c) {x : Option Operand} {v : Option V} (h : evalO a x = some v) : RO φ v (x.map c.eval) := by
  cases x with
  | none => simp [evalO] at h; subst h; exact .none
  | some x =>
    simp only [evalO] at h
    obtain ⟨u, hu, rfl⟩ := Option.map_some'.1 h
    exact .some _ _ (eval_sound r hu)

theorem run_sliceBounds {φ : Phi} {w : World} (isSlice : Bool) {len C l h m cap : Nat} {lo hi mx : Option V} {lo' hi' mx' : Option Value} (rl : RO φ lo lo') (rh : RO φ hi hi') (rm : RO φ mx mx')
    (hl : natOr lo 0 = some l) (hhi : natOr hi len = some h) (hm : natOr mx cap = some m) (hmc : mx = none → m = cap ∧ True) (h1 : l ≤ h) (h2 : h ≤ m) (h3 : m ≤ C) (hx : (hi.isSome || mx.isNone) = true)
    (M : Nat) (hM : mx = none → M = C) (hM' : mx ≠ none → M = m) :
    (Instr.sliceBounds isSlice len C lo' hi' mx').run P w = .ok (l, h, M) w := by
  have bound : ∀ {v : V} {u : Value} {n y : Nat} (code : BoundsCode), Rv φ v u → natOf v = some n → n ≤ y → (Instr.sliceBound u y code).run P w = .ok n w := by
    intro v u n y code hR hn hy
    obtain ⟨k, rfl⟩ := natOf_some hn
    cases hR
    have : (Instr.sliceBound (.int k (Int.ofNat n)) y code).run P w = .ok (Int.ofNat n).toNat w := run_sliceBound w k (Int.ofNat n) y code (by simp) (by simp; omega)
    exact this
  cases rm with
  | none =>
    have eM := hM rfl
    subst eM
    have em : m = cap := (hmc rfl).1
    cases rh with
    | none =>
      simp only [natOr, Option.some.injEq] at hhi; subst hhi
      cases rl with
      | none => simp only [natOr, Option.some.injEq] at hl; subst hl; simp [Instr.sliceBounds]
      | some v u hv => simp [Instr.sliceBounds, bound _ hv hl h1]
    | some v u hv =>
      cases rl with
      | none => simp only [natOr, Option.some.injEq] at hl; subst hl; simp [Instr.sliceBounds, bound _ hv hhi (Nat.le_trans h2 h3)]
      | some v' u' hv' => simp [Instr.sliceBounds, bound _ hv hhi (Nat.le_trans h2 h3), bound _ hv' hl h1]
  | some x y hxy =>
    have eM := hM' (by simp)
    subst eM
    cases rh with
    | none => simp at hx
    | some v u hv =>
      cases rl with
      | none => simp only [natOr, Option.some.injEq] at hl; subst hl; simp [Instr.sliceBounds, bound _ hxy hm h3, bound _ hv hhi h2]
      | some v' u' hv' => simp [Instr.sliceBounds, bound _ hxy hm h3, bound _ hv hhi h2, bound _ hv' hl h1]

theorem isNone_of {α : Type} {x : Option α} (h : x.isSome = false) : x = none := by cases x <;> simp at h ⊢

theorem slice_sound {φ : Phi} {w : World} {t : TypeId} {v r : V} {a : Value} {lo hi mx : Option V} {lo' hi' mx' : Option Value} (hx : Rv φ v a) (rl : RO φ lo lo') (rh : RO φ hi hi') (rm : RO φ mx mx')
    (h : sliceV P t v lo hi mx = some r) : ∃ u, (Instr.sliceAt t a lo' hi' mx').run P w = .ok u w ∧ Rv φ r u := by
  unfold sliceV at h
  split at h
  · rename_i z hu
    simp only [sliceStr, cond_none_some, Option.bind_some', cond_some, Bool.and_eq_true] at h
    obtain ⟨hm, l, hl, e, he, ⟨h1, h2⟩, h⟩ := h
    cases h
    have := isNone_of hm; subst this
    cases rm
    cases hx
    have hb := run_sliceBounds (P := P) (w := w) false (C := z.length) (cap := z.length) rl rh .none hl he rfl (fun _ => ⟨rfl, trivial⟩) (nat_ble_t h1) (nat_ble_t h2) (Nat.le_refl _) (by simp) z.length (fun _ => rfl) (fun hh => absurd rfl hh)
    refine ⟨_, ?_, .str _⟩
    have hsz : (ByteArray.mk ⟨z⟩).size = z.length := rfl
    have hex : (ByteArray.mk ⟨z⟩).extract l e = ByteArray.mk ⟨(z.drop l).take (e - l)⟩ := by
      apply ByteArray.ext
      simp [ByteArray.data_extract]
    simp only [Instr.sliceAt, Sem.run_bind, run_underlying hu, Result.andThen_ok, Instr.slice, Option.isSome_none, Bool.false_eq_true, if_false, hsz, hb, Sem.run_pure, hex]
    rfl
  · rename_i e b o len cap sl hu
    obtain ⟨n, hn, h⟩ := Option.bind_some'.1 h
    simp only [sliceRow, Option.bind_some', cond_some, Bool.and_eq_true] at h
    obtain ⟨l, hl, e', he, m, hm, ⟨⟨⟨h1, h2⟩, h3⟩, h4⟩, h⟩ := h
    have h1' := nat_ble_t h1; have h2' := nat_ble_t h2; have h3' := nat_ble_t h3
    cases hx; rename_i L hL
    cases rm with
    | none =>
      simp only [natOr, Option.some.injEq] at hm; subst hm
      simp only [Option.isSome_none, cond_false] at h
      have hb := run_sliceBounds (P := P) (w := w) true (C := cap + if sl = true then L.sk else 0) (cap := cap) rl rh .none hl he rfl (fun _ => ⟨rfl, trivial⟩) h1' h2' (by omega) (by simp)
        (cap + if sl = true then L.sk else 0) (fun _ => rfl) (fun hh => absurd rfl hh)
      have hrun : ∀ u, u = Value.slice (if (cap + if sl = true then L.sk else 0) = l then some ⟨L.blk, L.dl + o, none⟩ else some (Addr.add ⟨L.blk, L.dl + o, none⟩ (l * n))) (e' - l) ((cap + if sl = true then L.sk else 0) - l) →
          (Instr.sliceAt t (.slice (some ⟨L.blk, L.dl + o, none⟩) len (cap + if sl = true then L.sk else 0)) lo' hi' none).run P w = .ok u w := by
        intro u e1
        subst e1
        simp only [Instr.sliceAt, Sem.run_bind, run_underlying hu, Result.andThen_ok, Instr.slice, hb, run_sz hn, Sem.run_pure, Option.map_some]
      cases hc : Nat.beq cap l with
      | true =>
        have e1 := nat_beq_t hc
        subst e1
        rw [hc] at h; simp only [cond_true] at h
        have : e' = cap := by omega
        subst this
        cases sl with
        | true =>
          simp only [cond_true, Option.some.injEq] at h; subst h
          refine ⟨_, hrun _ rfl, ?_⟩
          have := Rv.etail (φ := φ) b o (o + e' * n) L hL
          by_cases hz : L.sk = 0
          · simp only [hz, if_true] at this ⊢
            simpa using this
          · simp only [hz, if_false] at this
            have hne : ¬ (e' + L.sk = e') := by omega
            simp only [if_true, hne, if_false, addr_add, Nat.sub_self, Nat.add_sub_cancel_left, Nat.add_assoc]
            exact this
        | false =>
          simp only [cond_false, Option.some.injEq] at h; subst h
          refine ⟨_, hrun _ rfl, ?_⟩
          have := Rv.slice (φ := φ) b o 0 0 false L hL
          simpa using this
      | false =>
        have e1 := nat_beq_f hc
        rw [hc] at h; simp only [cond_false, Option.some.injEq] at h; subst h
        refine ⟨_, hrun _ rfl, ?_⟩
        have := Rv.slice (φ := φ) b (o + l * n) (e' - l) (cap - l) sl L hL
        have hne : ¬ ((cap + if sl = true then L.sk else 0) = l) := by omega
        rw [if_neg hne, addr_add, show (cap + if sl = true then L.sk else 0) - l = cap - l + if sl = true then L.sk else 0 by omega, Nat.add_assoc]
        exact this
    | some x y hxy =>
      simp only [Option.isSome_some, cond_true, Option.some.injEq] at h
      subst h
      have hb := run_sliceBounds (P := P) (w := w) true (C := cap + if sl = true then L.sk else 0) (cap := cap) rl rh (.some x y hxy) hl he hm (fun hh => by cases hh) h1' h2' (by omega) h4
        m (fun hh => by cases hh) (fun _ => rfl)
      refine ⟨Value.slice (if m = l then some ⟨L.blk, L.dl + o, none⟩ else some (Addr.add ⟨L.blk, L.dl + o, none⟩ (l * n))) (e' - l) (m - l), ?_, ?_⟩
      · simp only [Instr.sliceAt, Sem.run_bind, run_underlying hu, Result.andThen_ok, Instr.slice, hb, run_sz hn, Sem.run_pure, Option.map_some]
      · have := Rv.slice (φ := φ) b (bif Nat.beq m l then o else o + l * n) (e' - l) (m - l) false L hL
        cases hc : Nat.beq m l with
        | true =>
          have e1 := nat_beq_t hc
          rw [hc] at this
          rw [if_pos e1]
          simpa [hc] using this
        | false =>
          have e1 := nat_beq_f hc
          rw [hc] at this
          rw [if_neg e1, addr_add, Nat.add_assoc]
          simpa [hc] using this
  · rename_i e b o o' hu
    obtain ⟨n, hn, h⟩ := Option.bind_some'.1 h
    simp only [zeroCut, cond_none_some, Option.bind_some', cond_some, Bool.and_eq_true] at h
    obtain ⟨hm, l, hl, e', he, ⟨h1, h2⟩, h⟩ := h
    cases h
    have := isNone_of hm; subst this
    cases rm
    cases hx; rename_i L hL
    have e1 := nat_beq_t h1; have e2 := nat_beq_t h2; subst e1; subst e2
    have hb := run_sliceBounds (P := P) (w := w) true (C := L.sk) (cap := 0) rl rh .none hl he rfl (fun _ => ⟨rfl, trivial⟩) (Nat.le_refl _) (Nat.le_refl _) (Nat.zero_le _) (by simp) L.sk (fun _ => rfl) (fun hh => absurd rfl hh)
    refine ⟨_, ?_, .etail b o o' L hL⟩
    simp only [Instr.sliceAt, Sem.run_bind, run_underlying hu, Result.andThen_ok, Instr.slice, hb, run_sz hn, Sem.run_pure, Option.map_some]
    simp [addr_add]
  · rename_i e hu
    obtain ⟨n, hn, h⟩ := Option.bind_some'.1 h
    simp only [zeroCut, cond_none_some, Option.bind_some', cond_some, Bool.and_eq_true] at h
    obtain ⟨hm, l, hl, e', he, ⟨h1, h2⟩, h⟩ := h
    cases h
    have := isNone_of hm; subst this
    cases rm
    cases hx
    have e1 := nat_beq_t h1; have e2 := nat_beq_t h2; subst e1; subst e2
    have hb := run_sliceBounds (P := P) (w := w) true (C := 0) (cap := 0) rl rh .none hl he rfl (fun _ => ⟨rfl, trivial⟩) (Nat.le_refl _) (Nat.le_refl _) (Nat.zero_le _) (by simp) 0 (fun _ => rfl) (fun hh => absurd rfl hh)
    refine ⟨_, ?_, .nils⟩
    simp only [Instr.sliceAt, Sem.run_bind, run_underlying hu, Result.andThen_ok, Instr.slice, hb, run_sz hn, Sem.run_pure, Option.map_none]
    simp
  · rename_i len e b o hu
    obtain ⟨n, hn, h⟩ := Option.bind_some'.1 h
    simp only [sliceArr, cond_none_some, Option.bind_some', cond_some, Bool.and_eq_true] at h
    obtain ⟨hm, l, hl, e', he, ⟨h1, h2⟩, h⟩ := h
    cases h
    have := isNone_of hm; subst this
    cases rm
    cases hx; rename_i L hL
    have hb := run_sliceBounds (P := P) (w := w) false (C := len) (cap := len) rl rh .none hl he rfl (fun _ => ⟨rfl, trivial⟩) (nat_ble_t h1) (nat_ble_t h2) (Nat.le_refl _) (by simp) len (fun _ => rfl) (fun hh => absurd rfl hh)
    refine ⟨Value.slice (some (if len = l then ⟨L.blk, L.dl + o, none⟩ else Addr.add ⟨L.blk, L.dl + o, none⟩ (l * n))) (e' - l) (len - l), ?_, ?_⟩
    · simp only [Instr.sliceAt, Sem.run_bind, run_underlying hu, Result.andThen_ok, Instr.sureAddr, hb, run_sz hn, Sem.run_pure]
    · have := Rv.slice (φ := φ) b (bif Nat.beq len l then o else o + l * n) (e' - l) (len - l) false L hL
      cases hc : Nat.beq len l with
      | true =>
        have e1 := nat_beq_t hc
        rw [hc] at this
        rw [if_pos e1]
        simpa [hc] using this
      | false =>
        have e1 := nat_beq_f hc
        rw [hc] at this
        rw [if_neg e1, addr_add, Nat.add_assoc]
        simpa [hc] using this
  · cases h

theorem okV_sound {φ : Phi} {v : V} {u : Value} (h : Rv φ v u) (ok b : Bool) : Rv φ (okV ok v b) (if ok then .tuple #[u, .bool b] else u) := by
  cases ok with
  | true => exact .tup _ _ (.cons _ _ _ _ h (.cons _ _ _ _ (.bool b) .nil))
  | false => exact h

theorem typeAssert_sound {φ : Phi} {w : World} {xt asserted : TypeId} {ok : Bool} {v r : V} {a : Value} (hx : Rv φ v a) (h : typeAssertV P v asserted ok = some r) :
    ∃ u, (Instr.typeAssert a xt asserted ok).run P w = .ok u w ∧ Rv φ r u := by
  have fails : failsV P ok asserted = some r → ok = true ∧ ∃ u, (zeroValue asserted).run P w = .ok u w ∧ Rv φ r (.tuple #[u, .bool false]) := by
    intro h
    unfold failsV at h
    rw [cond_some] at h
    obtain ⟨hok, h⟩ := h
    obtain ⟨z, hz, rfl⟩ := Option.map_some'.1 h
    obtain ⟨u, h1, h2⟩ := run_zero (φ := φ) hz w
    exact ⟨hok, u, h1, .tup _ _ (.cons _ _ _ _ h2 (.cons _ _ _ _ (.bool false) .nil))⟩
  unfold typeAssertV at h
  split at h
  · rename_i ms hu
    obtain ⟨rfl, u, h1, h2⟩ := fails h
    cases hx
    exact ⟨_, by simp only [Instr.typeAssert, Sem.run_bind, run_underlying hu, Result.andThen_ok, if_true, h1, Sem.run_pure], h2⟩
  · rename_i want t v hu
    obtain ⟨i, hi, h⟩ := Option.bind_some'.1 h
    cases hm : Instr.missingMethod want i.methods with
    | none =>
      rw [hm] at h
      simp only [Option.isNone_none, cond_true, Option.some.injEq] at h
      subst h
      refine ⟨_, ?_, okV_sound hx ok true⟩
      cases hx
      simp only [Instr.typeAssert, Sem.run_bind, run_underlying hu, Result.andThen_ok, run_inf hi, hm, Sem.run_pure]
    | some m =>
      rw [hm] at h
      simp only [Option.isNone_some, cond_false] at h
      obtain ⟨rfl, u, h1, h2⟩ := fails h
      cases hx
      exact ⟨_, by simp only [Instr.typeAssert, Sem.run_bind, run_underlying hu, Result.andThen_ok, run_inf hi, hm, if_true, h1, Sem.run_pure], h2⟩
  · rename_i d hd hu
    obtain ⟨rfl, u, h1, h2⟩ := fails h
    cases hx
    refine ⟨_, ?_, h2⟩
    cases d <;> first
      | exact (hd _ rfl).elim
      | simp only [Instr.typeAssert, Sem.run_bind, run_underlying hu, Result.andThen_ok, if_true, h1, Sem.run_pure]
  · rename_i d t v hd hu
    cases hc : Nat.beq t asserted with
    | true =>
      have e1 := nat_beq_t hc; subst e1
      rw [hc] at h
      simp only [cond_true, Option.some.injEq] at h
      subst h
      cases hx; rename_i u hu'
      refine ⟨_, ?_, okV_sound hu' ok true⟩
      cases d <;> first
        | exact (hd _ rfl).elim
        | simp only [Instr.typeAssert, Sem.run_bind, run_underlying hu, Result.andThen_ok, if_true, Sem.run_pure]
    | false =>
      have e1 := nat_beq_f hc
      rw [hc] at h
      simp only [cond_false] at h
      obtain ⟨rfl, u, h1, h2⟩ := fails h
      cases hx
      refine ⟨_, ?_, h2⟩
      cases d <;> first
        | exact (hd _ rfl).elim
        | simp only [Instr.typeAssert, Sem.run_bind, run_underlying hu, Result.andThen_ok, if_neg e1, if_true, h1, Sem.run_pure]
  · cases h
end
end Go.Ev
