/- '==' and the other operators. -/
import Derived.Test.YtcbhnjlbolafpabGreatDoorEvE
set_option linter.unusedSimpArgs false
set_option linter.unusedVariables false
namespace Go.Ev
section
variable {P : Program}

theorem eqT_run {φ : Phi} {s : St} {w : World} (hh : Rh φ s w) : ∀ (d D : Nat), d < D → ∀ (t : TypeId) (x y : V) (r : Bool) (a b : Value), eqT P s d t x y = some r → Rv φ x a → Rv φ y b →
    (Op.equalIn D t a b).run P w = .ok r w
  | 0, D, _, t, x, y, r, a, b, h, _, _ => by simp [eqT] at h
  | d + 1, D, hD, t, x, y, r, a, b, h, hx, hy => by
    obtain ⟨D', rfl⟩ : ∃ m, D = m + 1 := ⟨D - 1, by omega⟩
    have hd' : d < D' := by omega
    have ih := eqT_run hh d D' hd'
    unfold eqT at h
    split at h
    · rename_i hu; cases hx; cases hy; cases h; simp only [Op.equalIn, Sem.run_bind, run_underlying hu, Result.andThen_ok, boolEq_eq, Sem.run_pure]
    · rename_i hu; cases hx; cases hy
      rw [cond_some] at h
      obtain ⟨hk, h⟩ := h
      have := kEq_t hk; subst this; cases h
      simp only [Op.equalIn, Sem.run_bind, run_underlying hu, Result.andThen_ok, if_true, intEq_eq, Sem.run_pure]
    · rename_i hu; cases hx; cases hy; cases h; simp only [Op.equalIn, Sem.run_bind, run_underlying hu, Result.andThen_ok, strEq_eq, ba_beq, Sem.run_pure]
    · rename_i hu; cases hx; cases hy; cases h; simp only [Op.equalIn, Sem.run_bind, run_underlying hu, Result.andThen_ok, Sem.run_pure]; rfl
    · rename_i hu; cases hx; cases hy; cases h; simp only [Op.equalIn, Sem.run_bind, run_underlying hu, Result.andThen_ok, Sem.run_pure]; rfl
    · rename_i hu; cases hx; cases hy; cases h; simp only [Op.equalIn, Sem.run_bind, run_underlying hu, Result.andThen_ok, Sem.run_pure]
    · rename_i hu; cases hx; rename_i l hl; cases hy; rename_i l' hl'
      exact eqPtr_run hh hu hl hl' h D'
    · rename_i hu; cases hx; cases hy; cases h; simp only [Op.equalIn, Sem.run_bind, run_underlying hu, Result.andThen_ok, Sem.run_pure]
    · rename_i hu; cases hx; cases hy; cases h; simp only [Op.equalIn, Sem.run_bind, run_underlying hu, Result.andThen_ok, Sem.run_pure]
    · rename_i tx vx ty vy hu
      cases hx; rename_i ux hux; cases hy; rename_i uy huy
      unfold eqIface at h
      cases ht : Nat.beq tx ty with
      | true =>
        have := nat_beq_t ht; subst this
        rw [ht] at h
        simp only [cond_true, Option.bind_some', cond_some] at h
        obtain ⟨i, hi, hc, h⟩ := h
        simp only [Op.equalIn, Sem.run_bind, run_underlying hu, Result.andThen_ok, ne_eq, not_true_eq_false, if_false, run_inf hi, hc, Bool.not_true, Bool.false_eq_true]
        exact ih _ _ _ _ _ _ h hux huy
      | false =>
        have := nat_beq_f ht
        rw [ht] at h
        simp only [cond_false, Option.some.injEq] at h
        subst h
        simp only [Op.equalIn, Sem.run_bind, run_underlying hu, Result.andThen_ok, ne_eq, this, not_false_eq_true, if_true, Sem.run_pure]
    · rename_i fields xs ys hu
      cases hx; rename_i us hus; cases hy; rename_i vs hvs
      rw [cond_none_some] at h
      obtain ⟨hg, h⟩ := h
      simp only [Bool.or_eq_false_iff] at hg
      have hf : P.fieldsOf t = fields := by simp [Program.fieldsOf, hu]
      rw [run_equalIn_struct w D' t _ _ (by rw [hf]; exact hu) hg.1, hf]
      exact run_eqFields (fun t x y r a b h1 h2 h3 => ih t x y r a b h1 h2 h3) hus hvs _ r h
    · rename_i len e xs ys hu
      cases hx; rename_i us hus; cases hy; rename_i vs hvs
      obtain ⟨D'', rfl⟩ : ∃ m, D' = m + 1 := ⟨D' - 1, by omega⟩
      rw [cond_none_some] at h
      exact eqArray_run hu hus hvs h.2 D''
    · rename_i hu; cases hx; cases hy; cases h; simp only [Op.equalIn, Sem.run_bind, run_underlying hu, Result.andThen_ok, Sem.run_pure]; rfl
    · rename_i hu; cases hx; cases hy; cases h; simp only [Op.equalIn, Sem.run_bind, run_underlying hu, Result.andThen_ok, Sem.run_pure]; rfl
    · rename_i hu; cases hx; cases hy; cases h; simp only [Op.equalIn, Sem.run_bind, run_underlying hu, Result.andThen_ok, Sem.run_pure]; rfl
    · rename_i hu; cases hx; cases hy; cases h; simp only [Op.equalIn, Sem.run_bind, run_underlying hu, Result.andThen_ok, Sem.run_pure]
    · rename_i hu; cases hx; cases hy; cases h; simp only [Op.equalIn, Sem.run_bind, run_underlying hu, Result.andThen_ok, Sem.run_pure]
    · rename_i hu; cases hx; cases hy; cases h; simp only [Op.equalIn, Sem.run_bind, run_underlying hu, Result.andThen_ok, Sem.run_pure]; rfl
    · rename_i hu; cases hx; cases hy; cases h; simp only [Op.equalIn, Sem.run_bind, run_underlying hu, Result.andThen_ok, Sem.run_pure]; rfl
    · rename_i hu; cases hx; cases hy; cases h; simp only [Op.equalIn, Sem.run_bind, run_underlying hu, Result.andThen_ok, Sem.run_pure]
    · rename_i hu; cases hx; cases hy; cases h; simp only [Op.equalIn, Sem.run_bind, run_underlying hu, Result.andThen_ok, Sem.run_pure]
    · rename_i hu; cases hx; cases hy; cases h; simp only [Op.equalIn, Sem.run_bind, run_underlying hu, Result.andThen_ok, Sem.run_pure]
    · rename_i hu; cases hx; cases hy; cases h; simp only [Op.equalIn, Sem.run_bind, run_underlying hu, Result.andThen_ok, Sem.run_pure]
    · cases h

theorem run_eqGuard_no {w : World} (op : BinOp) (t : TypeId) (x y : Operand) (a b : Value) (h1 : ¬ (a = .nilIface ∧ b = .nilIface)) (h2 : ∀ xs ys, ¬ (a = .agg xs ∧ b = .agg ys)) :
    (eqGuard op t x y a b).run P w = .ok () w := by
  unfold eqGuard
  cases op <;> first
    | rfl
    | (simp only [Bool.not_true, Bool.false_eq_true, if_false]
       cases a <;> cases b <;> first | rfl | exact absurd ⟨rfl, rfl⟩ h1 | exact absurd ⟨rfl, rfl⟩ (h2 _ _))

theorem shiftV_run {w : World} {φ : Phi} {op : BinOp} (hop : isShift op = true) {k k' : IntKind} {a b : Int} {r : V} (t : TypeId) (h : shiftV op k a b = some r) :
    ∃ u, (binOp op t (.int k a) (.int k' b)).run P w = .ok u w ∧ Rv φ r u := by
  unfold shiftV at h
  rw [cond_none_some, intLt_eq] at h
  obtain ⟨hb, h⟩ := h
  have hb' : ¬ b < 0 := by simpa using hb
  cases op <;> simp [isShift] at hop
  · simp only [Option.some.injEq] at h; subst h
    exact ⟨_, by simp only [binOp, Op.shift, if_neg hb', Sem.run_pure], .int _ _⟩
  · simp only [Option.some.injEq] at h; subst h
    exact ⟨_, by simp only [binOp, Op.shift, if_neg hb', Sem.run_pure], .int _ _⟩

theorem intOpV_run {w : World} {φ : Phi} {op : BinOp} (hop : isShift op = false) {k : IntKind} {a b : Int} {r : V} (t : TypeId) (h : intOpV op k a b = some r) :
    ∃ u, (binOp op t (.int k a) (.int k b)).run P w = .ok u w ∧ Rv φ r u := by
  cases op <;> simp [isShift] at hop <;> simp only [intOpV] at h
  case add => cases h; exact ⟨_, by simp [binOp, Op.intArith], .int _ _⟩
  case sub => cases h; exact ⟨_, by simp [binOp, Op.intArith], .int _ _⟩
  case mul => cases h; exact ⟨_, by simp [binOp, Op.intArith], .int _ _⟩
  case quo =>
    rw [cond_none_some, intEq_eq] at h
    obtain ⟨hb, h⟩ := h
    cases h
    have hb' : ¬ b = 0 := by simpa using hb
    exact ⟨_, by simp [binOp, Op.intDiv, hb'], .int _ _⟩
  case rem =>
    rw [cond_none_some, intEq_eq] at h
    obtain ⟨hb, h⟩ := h
    cases h
    have hb' : ¬ b = 0 := by simpa using hb
    exact ⟨_, by simp [binOp, Op.intDiv, hb'], .int _ _⟩
  case and => cases h; exact ⟨_, by simp only [binOp, Op.intBits, ne_eq, not_true_eq_false, if_false, Sem.run_pure], .int _ _⟩
  case or => cases h; exact ⟨_, by simp only [binOp, Op.intBits, ne_eq, not_true_eq_false, if_false, Sem.run_pure], .int _ _⟩
  case xor => cases h; exact ⟨_, by simp only [binOp, Op.intBits, ne_eq, not_true_eq_false, if_false, Sem.run_pure], .int _ _⟩
  case andNot => cases h; exact ⟨_, by simp only [binOp, Op.intBits, ne_eq, not_true_eq_false, if_false, Sem.run_pure], .int _ _⟩
  case eql => cases h; exact ⟨_, by simp [binOp, Op.intCmp]; rfl, by rw [intEq_eq]; exact .bool _⟩
  case neq => cases h; exact ⟨_, by simp [binOp, Op.intCmp]; rfl, by rw [intEq_eq]; exact .bool _⟩
  case lss => cases h; exact ⟨_, by simp [binOp, Op.intCmp]; rfl, by rw [intLt_eq]; exact .bool _⟩
  case leq => cases h; exact ⟨.bool (a ≤ b), by simp [binOp, Op.intCmp], by rw [intLt_eq, show (!decide (b < a)) = decide (a ≤ b) by rw [Bool.eq_iff_iff]; simp]; exact .bool _⟩
  case gtr => cases h; exact ⟨.bool (a > b), by simp [binOp, Op.intCmp], by rw [intLt_eq]; exact .bool _⟩
  case geq => cases h; exact ⟨.bool (a ≥ b), by simp [binOp, Op.intCmp], by rw [intLt_eq, show (!decide (a < b)) = decide (a ≥ b) by rw [Bool.eq_iff_iff]; simp]; exact .bool _⟩
  all_goals cases h

theorem bytesLess_irrefl : ∀ (a : List UInt8), Op.bytesLess a a = false
  | [] => by simp [Op.bytesLess]
  | x :: l => by simp [Op.bytesLess, bytesLess_irrefl l]
theorem bytesLess_asymm : ∀ (a b : List UInt8), Op.bytesLess a b = true → Op.bytesLess b a = false
  | _, [], h => by simp [Op.bytesLess] at h
  | [], _ :: _, h => by simp [Op.bytesLess]
  | x :: l, y :: m, h => by
    simp only [Op.bytesLess, Bool.or_eq_true, Bool.and_eq_true, decide_eq_true_iff, beq_iff_eq] at h
    simp only [Op.bytesLess, Bool.or_eq_false_iff, Bool.and_eq_false_iff, decide_eq_false_iff_not, beq_eq_false_iff_ne]
    rcases h with h | ⟨h1, h2⟩
    · exact ⟨fun hh => absurd (UInt8.lt_trans h hh) (UInt8.lt_irrefl _), .inl (fun e => by subst e; exact absurd h (UInt8.lt_irrefl _))⟩
    · subst h1; exact ⟨UInt8.lt_irrefl _, .inr (bytesLess_asymm l m h2)⟩
theorem bytesLess_total : ∀ (a b : List UInt8), Op.bytesLess a b = false → Op.bytesLess b a = false → a = b
  | [], [], _, _ => rfl
  | [], _ :: _, h, _ => by simp [Op.bytesLess] at h
  | _ :: _, [], _, h => by simp [Op.bytesLess] at h
  | x :: l, y :: m, h, h' => by
    simp only [Op.bytesLess, Bool.or_eq_false_iff, Bool.and_eq_false_iff, decide_eq_false_iff_not, beq_eq_false_iff_ne] at h h'
    have e : x = y := by
      rw [← u8_eq]
      have h1 := h.1; have h2 := h'.1
      rw [UInt8.lt_iff_toNat_lt] at h1 h2
      omega
    subst e
    have h2 := h.2.resolve_left (fun hh => hh rfl)
    have h3 := h'.2.resolve_left (fun hh => hh rfl)
    rw [bytesLess_total l m h2 h3]
theorem not_less (a b : List UInt8) : (!Op.bytesLess b a) = (Op.bytesLess a b || a == b) := by
  rw [Bool.eq_iff_iff]
  simp only [Bool.not_eq_true', Bool.or_eq_true, beq_iff_eq]
  constructor
  · intro h
    cases hl : Op.bytesLess a b with
    | true => exact .inl rfl
    | false => exact .inr (bytesLess_total a b hl h)
  · rintro (h | rfl)
    · exact bytesLess_asymm _ _ h
    · exact bytesLess_irrefl _

theorem strOpV_run {w : World} {φ : Phi} {op : BinOp} {a b : List UInt8} {r : V} (t : TypeId) (h : strOpV op a b = some r) :
    ∃ u, (binOp op t (.string ⟨⟨a⟩⟩) (.string ⟨⟨b⟩⟩)).run P w = .ok u w ∧ Rv φ r u := by
  cases op <;> simp only [strOpV] at h
  case add =>
    rw [cond_some] at h
    obtain ⟨hl, h⟩ := h
    cases h
    have hl' := nat_blt_t hl
    refine ⟨.string ⟨⟨a ++ b⟩⟩, ?_, .str _⟩
    have h1 : (ByteArray.mk ⟨a⟩).size = a.length := rfl
    have h2 : (ByteArray.mk ⟨b⟩).size = b.length := rfl
    have hs : ¬ (((ByteArray.mk ⟨a⟩).size + (ByteArray.mk ⟨b⟩).size : Nat) : Int) > IntKind.i64.max := by
      rw [h1, h2]
      have : a.length + b.length < 4294967296 := hl'
      have hm : IntKind.i64.max = 9223372036854775807 := by decide
      rw [hm]; omega
    have happ : (ByteArray.mk ⟨a⟩) ++ (ByteArray.mk ⟨b⟩) = ByteArray.mk ⟨a ++ b⟩ := by
      apply ByteArray.ext; simp
    simp only [binOp, Op.stringOp, if_neg hs, Sem.run_pure, happ]
  case eql => cases h; exact ⟨_, by simp only [binOp, Op.stringOp, Sem.run_pure, ba_toList]; rfl, by rw [strEq_eq]; exact .bool _⟩
  case neq => cases h; exact ⟨_, by simp only [binOp, Op.stringOp, Sem.run_pure, ba_toList]; rfl, by rw [strEq_eq]; exact .bool _⟩
  case lss => cases h; exact ⟨_, by simp only [binOp, Op.stringOp, Sem.run_pure, ba_toList]; rfl, by rw [strLt_eq]; exact .bool _⟩
  case leq => cases h; exact ⟨_, by simp only [binOp, Op.stringOp, Sem.run_pure, ba_toList]; rfl, by rw [strLt_eq, not_less]; exact .bool _⟩
  case gtr =>
    cases h
    refine ⟨_, by simp only [binOp, Op.stringOp, Sem.run_pure, ba_toList]; rfl, ?_⟩
    rw [strLt_eq, ← not_less, Bool.not_not]; exact .bool _
  case geq => cases h; exact ⟨_, by simp only [binOp, Op.stringOp, Sem.run_pure, ba_toList]; rfl, by rw [strLt_eq]; exact .bool _⟩
  all_goals cases h

theorem eqT_agg {s : St} {d : Nat} {t : TypeId} {xs ys : List V} {r : Bool} (h : eqT P s (d + 1) t (.agg xs) (.agg ys) = some r) : P.eqGuardType P.depth t = false := by
  unfold eqT at h
  split at h <;> first | (rename_i h1 h2; cases h1; done) | skip
  all_goals first
    | (rename_i e1 e2; cases e1; done)
    | skip
  all_goals first
    | (cases h; done)
    | (rw [cond_none_some] at h; simp only [Bool.or_eq_false_iff] at h; exact h.1.2)
    | (rw [cond_none_some] at h; exact h.1)
    | skip
end
end Go.Ev
