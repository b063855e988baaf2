/- The operations that only give a value. -/
import Derived.Test.YtcbhnjlbolafpabGreatDoorEvF
import Derived.Laws.Slices
set_option linter.unusedSimpArgs false
set_option linter.unusedVariables false
namespace Go.Ev
section
variable {P : Program}

theorem binOp_eql_run {φ : Phi} {w : World} {v : V} {a b : Value} (t : TypeId) (h : Rv φ v a) (h1 : ∀ k n, v ≠ .int k n) (h2 : ∀ x, v ≠ .str x) :
    (Go.binOp .eql t a b).run P w = ((Op.equal t a b).run P w).andThen fun r w' => .ok (.bool r) w' := by
  cases h <;> first | exact absurd rfl (h1 _ _) | exact absurd rfl (h2 _) | simp [Go.binOp]
theorem binOp_neq_run {φ : Phi} {w : World} {v : V} {a b : Value} (t : TypeId) (h : Rv φ v a) (h1 : ∀ k n, v ≠ .int k n) (h2 : ∀ x, v ≠ .str x) :
    (Go.binOp .neq t a b).run P w = ((Op.equal t a b).run P w).andThen fun r w' => .ok (.bool (!r)) w' := by
  cases h <;> first | exact absurd rfl (h1 _ _) | exact absurd rfl (h2 _) | simp [Go.binOp]

theorem isConstO_matches (x : Operand) : (match x with | .const _ => true | _ => false) = isConstO x := by cases x <;> rfl

theorem run_eqGuardIn_nil {w : World} {t : TypeId} {ms : Array (String × TypeId)} (hu : P.underlying t = some (.interface ms)) (d : Nat) :
    (Op.eqGuardIn (d + 1) t .nilIface .nilIface).run P w = .ok (!ms.isEmpty) w := by
  simp only [Op.eqGuardIn, Sem.run_bind, run_underlying hu, Result.andThen_ok, Sem.run_pure]
theorem run_equalIn_nil {w : World} {t : TypeId} {ms : Array (String × TypeId)} (hu : P.underlying t = some (.interface ms)) (d : Nat) :
    (Op.equalIn (d + 1) t .nilIface .nilIface).run P w = .ok true w := by
  simp only [Op.equalIn, Sem.run_bind, run_underlying hu, Result.andThen_ok, Sem.run_pure]
theorem typeAt_some {ts : Array TypeId} {i : Nat} {d : TypeDesc} (h : typeAt P ts i = some d) : ∃ t, ts[i]? = some t ∧ P.underlying t = some d := by
  unfold typeAt at h
  obtain ⟨t, ht, h⟩ := Option.bind_some'.1 h
  rw [List.head?_drop] at ht
  exact ⟨t, by simpa using ht, h⟩

theorem eqTop_run {φ : Phi} {s : St} {w : World} (hh : Rh φ s w) {x y : Operand} {t : TypeId} {v v' : V} {a b : Value} {r : Bool} (hx : Rv φ v a) (hy : Rv φ v' b)
    (h : eqTop P s (isConstO x || isConstO y) t v v' = some r) (op : BinOp) :
    (eqGuard op t x y a b).run P w = .ok () w ∧ (Op.equal t a b).run P w = .ok r w := by
  unfold eqTop at h
  cases hn : (isNilI v && isNilI v') with
  | true =>
    rw [hn] at h
    simp only [cond_true, cond_some, Bool.and_eq_true, Bool.or_eq_true] at h
    obtain ⟨⟨hi, hc⟩, h⟩ := h
    cases h
    simp only [Bool.and_eq_true] at hn
    cases v <;> simp [isNilI] at hn
    cases v' <;> simp [isNilI] at hn
    cases hx; cases hy
    obtain ⟨ms, hu⟩ : ∃ ms, P.underlying t = some (.interface ms) := by
      cases hd : P.underlying t with
      | none => rw [hd] at hi; simp [isIfaceD] at hi
      | some d => cases d <;> rw [hd] at hi <;> simp [isIfaceD] at hi; exact ⟨_, rfl⟩
    refine ⟨?_, ?_⟩
    · have hm : (isConstO x || isConstO y) = true ∨ ms.isEmpty = true := by
        rcases hc with hc | hc
        · exact .inl (by simpa using hc)
        · rw [hu] at hc; exact .inr hc
      unfold eqGuard
      cases op <;> first
        | rfl
        | skip
      all_goals
        simp only [Bool.not_true, Bool.false_eq_true, if_false]
        cases x <;> cases y <;> first
          | rfl
          | (have hm' : ms.isEmpty = true := by simpa [isConstO] using hm
             have hg := run_eqGuardIn_nil (P := P) (w := w) hu 9999
             rw [hm'] at hg
             simp only [Bool.or_self, Bool.false_eq_true, if_false, Sem.run_bind, show Op.maxDepth = 9999 + 1 from rfl, hg, Result.andThen_ok, Bool.not_true, Sem.run_pure])
    · exact run_equalIn_nil (P := P) (w := w) hu 9999
  | false =>
    rw [hn] at h
    simp only [cond_false] at h
    refine ⟨?_, eqT_run hh 40 10000 (by omega) _ _ _ _ _ _ h hx hy⟩
    by_cases hagg : ∃ xs ys, a = .agg xs ∧ b = .agg ys
    · obtain ⟨xs, ys, rfl, rfl⟩ := hagg
      cases hx; cases hy
      exact run_eqGuard_agg w op t x y _ _ (eqT_agg h)
    · refine run_eqGuard_no op t x y a b ?_ (fun xs ys e => hagg ⟨xs, ys, e⟩)
      rintro ⟨rfl, rfl⟩
      cases hx; cases hy
      simp [isNilI] at hn

theorem binOp_sound {φ : Phi} {s : St} {w : World} (hh : Rh φ s w) {op : BinOp} {x y : Operand} {t : TypeId} {v v' r : V} {a b : Value} (hx : Rv φ v a) (hy : Rv φ v' b)
    (h : binOpV P s (isConstO x || isConstO y) op t v v' = some r) : ∃ u, (do eqGuard op t x y a b; Go.binOp op t a b).run P w = .ok u w ∧ Rv φ r u := by
  have other : (∀ k n, v ≠ .int k n) → (∀ z, v ≠ .str z) → eqOpV P s (isConstO x || isConstO y) op t v v' = some r →
      ∃ u, (do eqGuard op t x y a b; Go.binOp op t a b).run P w = .ok u w ∧ Rv φ r u := by
    intro h1 h2 h
    cases op <;> simp only [eqOpV] at h
    case eql =>
      obtain ⟨q, hq, rfl⟩ := Option.map_some'.1 h
      obtain ⟨g1, g2⟩ := eqTop_run hh hx hy hq .eql
      exact ⟨.bool q, by simp only [Sem.run_bind, g1, Result.andThen_ok, binOp_eql_run t hx h1 h2, g2], .bool q⟩
    case neq =>
      obtain ⟨q, hq, rfl⟩ := Option.map_some'.1 h
      obtain ⟨g1, g2⟩ := eqTop_run hh hx hy hq .neq
      exact ⟨.bool (!q), by simp only [Sem.run_bind, g1, Result.andThen_ok, binOp_neq_run t hx h1 h2, g2], .bool _⟩
    all_goals cases h
  unfold binOpV at h
  split at h
  · rename_i k n
    split at h
    · rename_i k' n'
      cases hx; cases hy
      have hg := run_eqGuard_no (P := P) (w := w) op t x y (.int k n) (.int k' n') (by simp) (by simp)
      cases hs : isShift op with
      | true =>
        rw [hs] at h; simp only [cond_true] at h
        obtain ⟨u, hu, hR⟩ := shiftV_run (P := P) (w := w) (φ := φ) (k' := k') hs t h
        exact ⟨u, by simp only [Sem.run_bind, hg, Result.andThen_ok, hu], hR⟩
      | false =>
        rw [hs] at h; simp only [cond_false, cond_some] at h
        obtain ⟨hk, h⟩ := h
        have := kEq_t hk; subst this
        obtain ⟨u, hu, hR⟩ := intOpV_run (P := P) (w := w) (φ := φ) hs t h
        exact ⟨u, by simp only [Sem.run_bind, hg, Result.andThen_ok, hu], hR⟩
    · cases h
  · rename_i z
    split at h
    · rename_i z'
      cases hx; cases hy
      have hg := run_eqGuard_no (P := P) (w := w) op t x y (.string ⟨⟨z⟩⟩) (.string ⟨⟨z'⟩⟩) (by simp) (by simp)
      obtain ⟨u, hu, hR⟩ := strOpV_run (P := P) (w := w) (φ := φ) t h
      exact ⟨u, by simp only [Sem.run_bind, hg, Result.andThen_ok, hu], hR⟩
    · cases h
  · rename_i h1 h2
    exact other (fun k n e => h1 k n e) (fun z e => h2 z e) h

theorem unOp_sound {φ : Phi} {w : World} {op : UnOp} {v r : V} {a : Value} (hx : Rv φ v a) (h : unOpV op v = some r) : ∃ u, (Op.unary op a).run P w = .ok u w ∧ Rv φ r u := by
  unfold unOpV at h
  split at h
  · cases h; cases hx; exact ⟨_, by simp [Op.unary, Op.intArith], .int _ _⟩
  · cases hx
    simp only [intOpV, Option.some.injEq] at h
    subst h
    exact ⟨_, by simp only [Op.unary, Op.intBits, Sem.run_pure], .int _ _⟩
  · cases h; cases hx; exact ⟨_, by simp [Op.unary], .bool _⟩
  · cases h

theorem asPtr_some {v : V} {p : Nat × Nat} (h : asPtr v = some p) : v = .ptr p.1 p.2 := by
  cases v <;> simp [asPtr] at h; subst h; rfl
theorem natOf_some {v : V} {n : Nat} (h : natOf v = some n) : ∃ k, v = .int k (Int.ofNat n) := by
  cases v <;> simp [natOf] at h
  rename_i k m
  cases m <;> simp at h
  subst h; exact ⟨k, rfl⟩
theorem asBoolV_some {v : V} {b : Bool} (h : asBoolV v = some b) : v = .bool b := by cases v <;> simp [asBoolV] at h; subst h; rfl
theorem asAggV_some {v : V} {l : List V} (h : asAggV v = some l) : v = .agg l := by cases v <;> simp [asAggV] at h; subst h; rfl
theorem asTup_some {v : V} {l : List V} (h : asTup v = some l) : v = .tup l := by cases v <;> simp [asTup] at h; subst h; rfl
theorem asFunc_some {v : V} {q : Fn × List V × List V} (h : asFunc v = some q) : v = .func q.1 q.2.1 q.2.2 := by cases v <;> simp [asFunc] at h; subst h; rfl
theorem asIface_some {v : V} {q : TypeId × V} (h : asIface v = some q) : v = .iface q.1 q.2 := by cases v <;> simp [asIface] at h; subst h; rfl

theorem fieldOf_some {t : TypeId} {f : Nat} {fd : Field} (h : fieldOf P t f = some fd) : ∃ fs : Array Field, P.underlying t = some (.struct fs) ∧ fs[f]? = some fd := by
  unfold fieldOf at h
  obtain ⟨l, hl, h⟩ := Option.bind_some'.1 h
  unfold fieldsD at hl
  split at hl
  · rename_i fs hu
    cases hl
    simp [List.head?_drop] at h
    exact ⟨fs, hu, h⟩
  · cases hl

theorem fieldPlace_run {w : World} {B off : Nat} {fd : Field} {n : Nat} (hn : szOf P fd.type = some n) (hz : n ≠ 0) :
    (fieldPlace ⟨B, off, none⟩ fd).run P w = .ok ⟨B, off + fd.offset, none⟩ w := by
  simp only [fieldPlace, Sem.run_bind, run_sz hn, Result.andThen_ok, if_neg hz, Sem.run_pure, addr_add]

theorem fieldAddr_sound {φ : Phi} {w : World} {t : TypeId} {v r : V} {a : Value} {f : Nat} (hx : Rv φ v a) (h : fieldAddrV P t v f = some r) :
    ∃ u, (Instr.fieldAt t a f).run P w = .ok u w ∧ Rv φ r u := by
  simp only [fieldAddrV, Option.bind_some', cond_none_some] at h
  obtain ⟨fd, hfd, n, hn, p, hp, hz, h⟩ := h
  obtain ⟨fs, hu, hf⟩ := fieldOf_some hfd
  have := asPtr_some hp; subst this
  cases h
  cases hx; rename_i l hl
  refine ⟨_, ?_, .ptr p.1 (p.2 + fd.offset) l hl⟩
  simp only [Instr.fieldAt, Sem.run_bind, run_underlying hu, Result.andThen_ok, hf, Instr.sureAddr, Sem.run_pure, fieldPlace_run hn (nat_beq_f hz), Nat.add_assoc]

theorem field_sound {φ : Phi} {w : World} {t : TypeId} {v r : V} {a : Value} {f : Nat} (hx : Rv φ v a) (h : fieldV P t v f = some r) :
    ∃ u, (Instr.field t a f).run P w = .ok u w ∧ Rv φ r u := by
  simp only [fieldV, Option.bind_some'] at h
  obtain ⟨fd, hfd, cs, hcs, h⟩ := h
  obtain ⟨fs, hu, hf⟩ := fieldOf_some hfd
  have := asAggV_some hcs; subst this
  cases hx; rename_i us hus
  obtain ⟨u, h1, h2⟩ := part_sound (P := P) (w := w) hus h
  exact ⟨u, by simp only [Instr.field, Sem.run_bind, run_underlying hu, Result.andThen_ok, hf, asAgg, Sem.run_pure, h1], h2⟩

theorem indexAddr_sound {φ : Phi} {w : World} {t : TypeId} {v i r : V} {a b : Value} (hx : Rv φ v a) (hi : Rv φ i b) (h : indexAddrV P t v i = some r) :
    ∃ u, (Instr.indexAt t a b).run P w = .ok u w ∧ Rv φ r u := by
  simp only [indexAddrV, Option.bind_some'] at h
  obtain ⟨n, hn, h⟩ := h
  obtain ⟨k, rfl⟩ := natOf_some hn
  cases hi
  split at h
  · rename_i len e b o hu
    simp only [Option.bind_some', cond_some] at h
    obtain ⟨z, hz, hlt, h⟩ := h
    cases h
    cases hx; rename_i l hl
    have hlt' := nat_blt_t hlt
    have hc : (0 : Int) ≤ (n : Int) ∧ (n : Int) < (len : Int) := by omega
    refine ⟨_, ?_, .ptr b (o + n * z) l hl⟩
    simp only [Instr.indexAt, asIntOf, Sem.run_bind, Sem.run_pure, Result.andThen_ok, run_underlying hu, Instr.sureAddr]
    simp [run_underlying hu, hlt', run_sz hz, addr_add, Nat.add_assoc]
  · rename_i e b o len cap sl hu
    simp only [Option.bind_some', cond_some] at h
    obtain ⟨z, hz, hlt, h⟩ := h
    cases h
    cases hx; rename_i l hl
    have hlt' := nat_blt_t hlt
    refine ⟨_, ?_, .ptr b (o + n * z) l hl⟩
    simp only [Instr.indexAt, asIntOf, Sem.run_bind, Sem.run_pure, Result.andThen_ok, run_underlying hu]
    simp [run_underlying hu, hlt', run_sz hz, addr_add, Nat.add_assoc]
  · cases h

theorem index_sound {φ : Phi} {w : World} {t : TypeId} {v i r : V} {a b : Value} (hx : Rv φ v a) (hi : Rv φ i b) (h : indexV P t v i = some r) :
    ∃ u, (Instr.index t a b).run P w = .ok u w ∧ Rv φ r u := by
  simp only [indexV, Option.bind_some'] at h
  obtain ⟨n, hn, h⟩ := h
  obtain ⟨k, rfl⟩ := natOf_some hn
  cases hi
  split at h
  · rename_i len e cs hu
    simp only [Option.bind_some', cond_some] at h
    obtain ⟨z, hz, hlt, h⟩ := h
    cases hx; rename_i us hus
    have hlt' := nat_blt_t hlt
    obtain ⟨u, h1, h2⟩ := part_sound (P := P) (w := w) hus h
    refine ⟨u, ?_, h2⟩
    have h1' : (part e ⟨us⟩ (n * z)).run P w = .ok u w := h1
    simp only [Instr.index, asIntOf, Sem.run_bind, Sem.run_pure, Result.andThen_ok, run_underlying hu]
    simp [hlt', run_sz hz, h1']
  · rename_i s hu
    obtain ⟨c, hc, rfl⟩ := Option.map_some'.1 h
    simp [List.head?_drop] at hc
    cases hx
    refine ⟨.int .u8 c.toNat, ?_, .int _ _⟩
    have hlt : n < s.length := (List.getElem?_eq_some_iff.1 hc).1
    have hg : (ByteArray.mk ⟨s⟩)[n]? = some c := by
      rw [ByteArray.getElem?_lt' _ _ (show n < (ByteArray.mk ⟨s⟩).size from hlt)]
      have := (List.getElem?_eq_some_iff.1 hc).2
      rw [← this]; rfl
    simp only [Instr.index, asIntOf, Sem.run_bind, Sem.run_pure, Result.andThen_ok, run_underlying hu]
    simp [hg]
  · cases h

theorem load_sound {φ : Phi} {s : St} {w : World} (hh : Rh φ s w) {t : TypeId} {v r : V} {a : Value} {p : Nat × Nat} (hx : Rv φ v a) (hp : asPtr v = some p) (h : ldVar P s t p.1 p.2 = some r) :
    ∃ u, (Instr.loadAt t a).run P w = .ok u w ∧ Rv φ r u := by
  have := asPtr_some hp; subst this
  cases hx; rename_i l hl
  obtain ⟨u, h1, h2⟩ := ldVar_sound hh hl h
  exact ⟨u, by simp only [Instr.loadAt, Instr.sureAddr, Sem.run_bind, Sem.run_pure, Result.andThen_ok, h1], h2⟩

theorem makeIface_sound {φ : Phi} {w : World} {t : TypeId} {v r : V} {a : Value} (hx : Rv φ v a) (h : makeIfaceV P t v = some r) :
    ∃ u, (Instr.makeInterface t a).run P w = .ok u w ∧ Rv φ r u := by
  unfold makeIfaceV at h
  split at h
  · cases h
  · rename_i d hd hu
    cases h
    refine ⟨_, ?_, .iface t v a hx⟩
    simp only [Instr.makeInterface, Sem.run_bind, run_underlying hu, Result.andThen_ok]
    cases d <;> first | rfl | exact absurd rfl (hd _)
  · cases h

theorem extract_sound {φ : Phi} {w : World} {v r : V} {a : Value} {l : List V} {i : Nat} (hx : Rv φ v a) (hl : asTup v = some l) (h : (l.drop i).head? = some r) :
    ∃ u, (Instr.extract a i).run P w = .ok u w ∧ Rv φ r u := by
  have := asTup_some hl; subst this
  cases hx; rename_i us hus
  simp [List.head?_drop] at h
  obtain ⟨u, h1, h2⟩ := hus.get i r h
  exact ⟨u, by simp [Instr.extract, h1], h2⟩

theorem len_sound {φ : Phi} {s : St} {w : World} (hh : Rh φ s w) {ts : Array TypeId} {ty : TypeId} {v r : V} {a : Value} (hx : Rv φ v a) (h : lenV P s ts v = some r) :
    ∃ u, (Builtin.len_ ts ty #[a]).run P w = .ok u w ∧ Rv φ r u := by
  have hty : ∀ d, typeAt P ts 0 = some d → ∃ t, ts[0]? = some t ∧ P.underlying t = some d := fun d hd => typeAt_some hd
  unfold lenV at h
  split at h
  · rename_i z hu
    obtain ⟨t, h0, hu⟩ := hty _ hu
    cases h; cases hx
    exact ⟨_, by simp [Builtin.len_, h0, run_underlying hu, goInt]; rfl, .int _ _⟩
  · rename_i n e hu
    obtain ⟨t, h0, hu⟩ := hty _ hu
    cases h
    refine ⟨.int .i64 (Int.ofNat n), ?_, .int _ _⟩
    cases hx <;> simp [Builtin.len_, h0, run_underlying hu, goInt]
  · rename_i e b o n c sl hu
    obtain ⟨t, h0, hu⟩ := hty _ hu
    cases h; cases hx
    exact ⟨_, by simp [Builtin.len_, h0, run_underlying hu, goInt], .int _ _⟩
  · rename_i e b o o' hu
    obtain ⟨t, h0, hu⟩ := hty _ hu
    cases h; cases hx
    exact ⟨_, by simp [Builtin.len_, h0, run_underlying hu, goInt], .int _ _⟩
  · rename_i e hu
    obtain ⟨t, h0, hu⟩ := hty _ hu
    cases h; cases hx
    exact ⟨_, by simp [Builtin.len_, h0, run_underlying hu, goInt], .int _ _⟩
  · rename_i k e hu
    obtain ⟨t, h0, hu⟩ := hty _ hu
    cases h; cases hx
    exact ⟨_, by simp [Builtin.len_, h0, run_underlying hu, goInt], .int _ _⟩
  · rename_i k e m hu
    obtain ⟨t, h0, hu⟩ := hty _ hu
    obtain ⟨es, hes, rfl⟩ := Option.map_some'.1 h
    cases hx; rename_i l hl
    unfold St.entries at hes
    obtain ⟨x, hx, hm⟩ := Option.bind_some'.1 hes
    cases x <;> simp [asMap] at hm
    rename_i es0 bo0
    subst hm
    obtain ⟨en, clk, h1, ⟨es', hp, hr⟩, _⟩ := hh.blk m l _ hl hx
    have hlen : ∀ {a : List (V × V)} {b : List MapEntry}, REnts φ a b → a.length = b.length := by
      intro a b hab; induction hab with
      | nil => rfl
      | cons _ _ _ _ _ _ ih => simp [ih]
    have : en.size = es0.length := by
      rw [← hp.length_eq, hlen hr]; simp
    exact ⟨_, by simp [Builtin.len_, h0, run_underlying hu, goInt, getObj, Sem.run, h1, this], .int _ _⟩
  · cases h

theorem cap_sound {φ : Phi} {w : World} {ts : Array TypeId} {ty : TypeId} {v r : V} {a : Value} (hx : Rv φ v a) (h : capV P ts v = some r) :
    ∃ u, (Builtin.cap_ ts ty #[a]).run P w = .ok u w ∧ Rv φ r u := by
  have hty : ∀ d, typeAt P ts 0 = some d → ∃ t, ts[0]? = some t ∧ P.underlying t = some d := fun d hd => typeAt_some hd
  unfold capV at h
  split at h
  · rename_i e b o n c hu
    obtain ⟨t, h0, hu⟩ := hty _ hu
    cases h; cases hx
    exact ⟨_, by simp [Builtin.cap_, h0, run_underlying hu, goInt], .int _ _⟩
  · rename_i e hu
    obtain ⟨t, h0, hu⟩ := hty _ hu
    cases h; cases hx
    exact ⟨_, by simp [Builtin.cap_, h0, run_underlying hu, goInt], .int _ _⟩
  · cases h
end
end Go.Ev
