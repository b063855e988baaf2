/- Building aggregates; the smaller builtins; ranging; methods. -/
import Derived.Test.YtcbhnjlbolafpabGreatDoorEvJ
set_option linter.unusedSimpArgs false
set_option linter.unusedVariables false
namespace Go.Ev
section
variable {P : Program}

inductive RP (φ : Phi) : List (Nat × V) → List (Nat × Value) → Prop
  | nil : RP φ [] []
  | cons (i : Nat) (v : V) (u : Value) (l : List (Nat × V)) (m : List (Nat × Value)) : Rv φ v u → RP φ l m → RP φ ((i, v) :: l) ((i, u) :: m)
theorem evalP_sound {φ : Phi} {a : Act} {c : Go.Act} (r : Ra φ a c) : ∀ {l : List (Nat × Operand)} {m : List (Nat × V)}, evalP a l = some m → RP φ m (l.map fun (i, x) => (i, c.eval x))
  | [], m, h => by simp [evalP] at h; subst h; exact .nil
  | (i, x) :: l, m, h => by
    simp only [evalP, Option.bind_some', Option.map_some'] at h
    obtain ⟨v, hv, w, hw, rfl⟩ := h
    exact .cons _ _ _ _ _ (eval_sound r hv) (evalP_sound r hw)

theorem foldl_put (off : Nat) : ∀ (vs : List Value) (k : Nat) (cs : Array Value), off + k + vs.length ≤ cs.size →
    ((vs.zipIdx k).foldl (fun (cs : Array Value) (x : Value × Nat) => cs.setIfInBounds (off + x.2) x.1) cs).size = cs.size ∧
    ∀ j : Nat, ((vs.zipIdx k).foldl (fun (cs : Array Value) (x : Value × Nat) => cs.setIfInBounds (off + x.2) x.1) cs)[j]? = if off + k ≤ j ∧ j < off + k + vs.length then vs[j - (off + k)]? else cs[j]?
  | [], k, cs, _ => ⟨by simp, fun j => by rw [if_neg (fun hh => by simp at hh; omega)]; simp⟩
  | v :: vs, k, cs, h => by
    simp only [List.length_cons] at h
    obtain ⟨h1, h2⟩ := foldl_put off vs (k + 1) (cs.setIfInBounds (off + k) v) (by simp; omega)
    refine ⟨by simp only [List.zipIdx_cons, List.foldl_cons]; rw [h1]; simp, fun j => ?_⟩
    simp only [List.zipIdx_cons, List.foldl_cons]
    rw [h2]
    by_cases hj : off + (k + 1) ≤ j ∧ j < off + (k + 1) + vs.length
    · rw [if_pos hj, if_pos (by simp; omega), show j - (off + k) = (j - (off + (k + 1))) + 1 by omega]; rfl
    · rw [if_neg hj]
      by_cases hj' : j = off + k
      · subst hj'
        rw [if_pos (by simp)]
        simp [show off + k < cs.size by omega]
      · rw [if_neg (by simp; omega), Array.getElem?_setIfInBounds_ne (fun e => hj' e.symm)]

theorem fill_sound {φ : Phi} {place : Nat → Option (Nat × Nat)} : ∀ {parts : List (Nat × V)} {cs r : List V} {ps : List (Nat × Value)} {us : List Value}, RP φ parts ps → RvL φ cs us →
    fillParts place cs parts = some r → ∃ rs, Instr.fill place ⟨us⟩ ps = some ⟨rs⟩ ∧ RvL φ r rs ∧ r.length = cs.length
  | _, cs, r, _, us, .nil, hc, h => by
    simp only [fillParts, Option.some.injEq] at h; subst h
    exact ⟨us, rfl, hc, rfl⟩
  | (i, v) :: parts, cs, r, (_, u) :: ps, us, .cons _ _ _ _ _ hv hp, hc, h => by
    simp only [fillParts, Option.bind_some', cond_some] at h
    obtain ⟨p, hpl, hl, m, hm, h⟩ := h
    obtain ⟨off, size⟩ := p
    dsimp only at hl hm
    have hl' := nat_beq_t hl
    obtain ⟨p1, p2, p3, p4⟩ := putAt_spec hm
    have hvc := cells_sound hv
    have hlen := hvc.length
    have hclen := hc.length
    have hsz : u.cells.size = size := by rw [← hl', hlen]; simp
    have hfit : off + u.cells.size ≤ us.length := by
      have : u.cells.size = (cellsOf v).length := by rw [hlen]; simp
      rw [this, ← hclen]; exact p2
    obtain ⟨f1, f2⟩ := foldl_put off u.cells.toList 0 ⟨us⟩ (by simpa using hfit)
    have hfold : (u.cells.zipIdx.foldl (fun (cs : Array Value) (x : Value × Nat) => cs.setIfInBounds (off + x.2) x.1) ⟨us⟩) =
        ((u.cells.toList.zipIdx 0).foldl (fun (cs : Array Value) (x : Value × Nat) => cs.setIfInBounds (off + x.2) x.1) ⟨us⟩) := by
      rw [← Array.foldl_toList]; simp
    generalize hG : ((u.cells.toList.zipIdx 0).foldl (fun (cs : Array Value) (x : Value × Nat) => cs.setIfInBounds (off + x.2) x.1) ⟨us⟩) = G at f1 f2 hfold
    have hR : RvL φ m G.toList := by
      refine RvL.of_get (by rw [p1]; simp [f1, hclen]) fun j x y hx hy => ?_
      have hy' : G[j]? = some y := by simpa using hy
      rw [f2] at hy'
      rw [p4] at hx
      have hll : u.cells.toList.length = (cellsOf v).length := hlen.symm
      by_cases hj : off ≤ j ∧ j < off + (cellsOf v).length
      · rw [if_pos hj] at hx
        rw [if_pos (by omega)] at hy'
        obtain ⟨z, hz, hzR⟩ := hvc.get _ _ hx
        rw [Nat.add_zero] at hy'
        rw [hy'] at hz; cases hz; exact hzR
      · rw [if_neg hj] at hx
        rw [if_neg (by omega)] at hy'
        obtain ⟨z, hz, hzR⟩ := hc.get _ _ hx
        have : us[j]? = some y := by simpa using hy'
        rw [this] at hz; cases hz; exact hzR
    obtain ⟨rs, g1, g2, g3⟩ := fill_sound hp hR h
    refine ⟨rs, ?_, g2, by rw [g3, p1]⟩
    have hnot : ¬ ((u.cells.size != size || decide (off + u.cells.size > (⟨us⟩ : Array Value).size)) = true) := by
      simp only [Bool.or_eq_true, bne_iff_ne, decide_eq_true_iff, not_or, List.size_toArray]
      exact ⟨fun h => h hsz, by omega⟩
    simp only [Instr.fill, hpl]
    rw [if_neg (by simpa using hnot)]
    rw [hfold]
    exact g1

theorem placesV_run {w : World} : ∀ {fs : List Field} {l : List (Nat × Nat)}, placesV P fs = some l →
    (fs.mapM (fun f => do pure (f.offset, ← sizeOf f.type) : Field → Sem (Nat × Nat))).run P w = .ok l w
  | [], l, h => by simp [placesV] at h; subst h; simp
  | f :: fs, l, h => by
    simp only [placesV, Option.bind_some', Option.map_some'] at h
    obtain ⟨n, hn, m, hm, rfl⟩ := h
    simp only [List.mapM_cons, Sem.run_bind, run_sz hn, Result.andThen_ok, Sem.run_pure, placesV_run hm]

theorem build_sound {φ : Phi} {w : World} {t : TypeId} {parts : List (Nat × V)} {ps : List (Nat × Value)} {r : V} (hp : RP φ parts ps) (h : buildV P t parts = some r) :
    ∃ u, (Instr.build t ⟨ps⟩).run P w = .ok u w ∧ Rv φ r u := by
  simp only [buildV, Option.bind_some', zeroOf, Option.map_some'] at h
  obtain ⟨zero, ⟨z, hz, rfl⟩, h⟩ := h
  obtain ⟨uz, hz1, hz2⟩ := run_zero (φ := φ) hz w
  have hzc := cells_sound hz2
  split at h
  · rename_i fields hu
    simp only [Option.bind_some', Option.map_some'] at h
    obtain ⟨pl, hpl, cs, hcs, rfl⟩ := h
    have hpr := placesV_run (w := w) hpl
    have hplace : (fun i => (pl.drop i).head?) = fun i => (⟨pl⟩ : Array (Nat × Nat))[i]? := by
      funext i; rw [List.head?_drop]; simp
    rw [hplace] at hcs
    obtain ⟨rs, g1, g2, _⟩ := fill_sound hp hzc hcs
    refine ⟨.agg ⟨rs⟩, ?_, .agg _ _ g2⟩
    have hm : (fields.mapM (fun f => do pure (f.offset, ← sizeOf f.type) : Field → Sem (Nat × Nat))).run P w = .ok ⟨pl⟩ w := by
      rw [Array.mapM_eq_mapM_toList, Sem.run_map, hpr]; rfl
    simp only [Instr.build, Sem.run_bind, hz1, run_underlying hu, Result.andThen_ok, hm]
    have g1' : Instr.fill (fun x => (⟨pl⟩ : Array (Nat × Nat))[x]?) uz.cells ps = some ⟨rs⟩ := g1
    simp only [g1', Sem.run_pure]
  · rename_i len e hu
    simp only [Option.bind_some', Option.map_some'] at h
    obtain ⟨n, hn, cs, hcs, rfl⟩ := h
    obtain ⟨rs, g1, g2, _⟩ := fill_sound hp hzc hcs
    refine ⟨.agg ⟨rs⟩, ?_, .agg _ _ g2⟩
    have g1' : Instr.fill (fun i => some (i * n, n)) uz.cells ps = some ⟨rs⟩ := g1
    simp only [Instr.build, Sem.run_bind, hz1, run_underlying hu, Result.andThen_ok, run_sz hn, g1', Sem.run_pure]
  · cases h

theorem nilAhead_own {w : World} {t : TypeId} {u : Value} {name : String} (ho : ownPtrMethod P t name = true) : (nilAhead (P.types.size + Made.depth) t u name).run P w = .ok (some false) w := by
  unfold ownPtrMethod at ho
  cases hmt : ((P.info? t).bind fun i => i.methods.toList.find? (·.name == name)) with
  | none => rw [hmt] at ho; simp at ho
  | some m =>
    rw [hmt] at ho
    obtain ⟨i, hi, hfind⟩ := Option.bind_some'.1 hmt
    obtain ⟨n, hn⟩ : ∃ n, P.types.size + Made.depth = n + 1 := ⟨P.types.size + Made.depth - 1, by
      have : Made.depth ≥ 1 := by decide
      omega⟩
    rw [hn]
    simp only at ho
    split at ho
    · rename_i hpth hfn
      have hfind' : i.methods.find? (·.name == name) = some m := by rw [← Array.find?_toList]; exact hfind
      simp only [nilAhead, Sem.run_bind, run_inf hi, Result.andThen_ok, hfind', hpth, followBlind, Sem.run_pure, hfn]
    · cases ho

theorem nilCheck_sound {φ : Phi} {w : World} {v r : V} {ρ : Operand → Value} {x0 : Operand} {o : Oper} (ho : o.op = .nilCheck x0) (hx : Rv φ v (ρ x0)) (h : nilCheckV P v = some r) :
    r = v ∧ (execOp ρ o).run P w = .ok (.value (ρ x0)) w := by
  simp only [execOp, ho]
  generalize ρ x0 = a at hx
  unfold nilCheckV at h
  split at h
  · cases h; cases hx; exact ⟨rfl, rfl⟩
  · cases h; cases hx; exact ⟨rfl, rfl⟩
  · cases h; cases hx; exact ⟨rfl, rfl⟩
  · cases h; cases hx with | func f g x y cx cy hf hx' hy => cases hf; exact ⟨rfl, rfl⟩
  · cases h; cases hx with | func f g x y cx cy hf hx' hy => cases hf; exact ⟨rfl, rfl⟩
  · rename_i name x y
    split at h
    · rename_i t v' l
      rw [cond_some] at h
      obtain ⟨ho, h⟩ := h
      cases h
      cases hx with
      | func f g x y cx cy hf hx' hy =>
        cases hf
        cases hx' with
        | cons _ u _ m hu hm =>
          cases hu with
          | iface _ _ u' hu' =>
            refine ⟨rfl, ?_⟩
            have hna := nilAhead_own (w := w) (u := u') ho
            have h0 : (⟨Value.iface t u' :: m⟩ : Array Value)[0]? = some (Value.iface t u') := rfl
            simp only [h0, Sem.run_bind, run_program, Result.andThen_ok, hna]
            simp
    · cases h
  · cases h

theorem min2_run {φ : Phi} {w : World} {x y r : V} {a b : Value} (hx : Rv φ x a) (hy : Rv φ y b) (h : min2 x y = some r) : ∃ u, (Builtin.min2 a b).run P w = .ok u w ∧ Rv φ r u := by
  unfold min2 at h
  split at h
  · cases h; cases hx; cases hy
    rename_i k m k' n
    refine ⟨.int k (if n < m then n else m), by simp [Builtin.min2], ?_⟩
    rw [intLt_eq]
    by_cases hh : n < m <;> simp only [hh, decide_true, decide_false, cond_true, cond_false, if_true, if_false] <;> exact .int _ _
  · cases h
theorem max2_run {φ : Phi} {w : World} {x y r : V} {a b : Value} (hx : Rv φ x a) (hy : Rv φ y b) (h : max2 x y = some r) : ∃ u, (Builtin.max2 a b).run P w = .ok u w ∧ Rv φ r u := by
  unfold max2 at h
  split at h
  · cases h; cases hx; cases hy
    rename_i k m k' n
    refine ⟨.int k (if n > m then n else m), by simp [Builtin.max2], ?_⟩
    rw [intLt_eq]
    by_cases hh : m < n
    · simp only [hh, decide_true, cond_true, gt_iff_lt, if_true]; exact .int _ _
    · simp only [hh, decide_false, cond_false, gt_iff_lt, if_false]; exact .int _ _
  · cases h; cases hx; cases hy
    rename_i a b
    refine ⟨.string ⟨⟨if strLt a b then b else a⟩⟩, ?_, by cases strLt a b <;> exact .str _⟩
    have hg : (Op.stringOp .geq ⟨⟨a⟩⟩ ⟨⟨b⟩⟩).run P w = .ok (.bool (!strLt a b)) w := by
      simp only [Op.stringOp, Sem.run_pure, ba_toList, strLt_eq]
    simp only [Builtin.max2, Sem.run_bind, hg, Result.andThen_ok, asBool, Sem.run_pure]
    cases strLt a b <;> simp
  · cases h
theorem foldV_run {φ : Phi} {w : World} {f : V → V → Option V} {g : Value → Value → Sem Value} (hfg : ∀ x y r a b, Rv φ x a → Rv φ y b → f x y = some r → ∃ u, (g a b).run P w = .ok u w ∧ Rv φ r u) :
    ∀ {l : List V} {m : List Value} {x r : V} {a : Value}, Rv φ x a → RvL φ l m → foldV f x l = some r → ∃ u, (m.foldlM g a).run P w = .ok u w ∧ Rv φ r u
  | _, _, x, r, a, hx, .nil, h => by simp only [foldV, Option.some.injEq] at h; subst h; exact ⟨a, by simp, hx⟩
  | _, _, x, r, a, hx, .cons y b l m hy hl, h => by
    simp only [foldV, Option.bind_some'] at h
    obtain ⟨z, hz, h⟩ := h
    obtain ⟨u, hu, hR⟩ := hfg _ _ _ _ _ hx hy hz
    obtain ⟨u', hu', hR'⟩ := foldV_run hfg hR hl h
    exact ⟨u', by simp only [List.foldlM_cons, Sem.run_bind, hu, Result.andThen_ok, hu'], hR'⟩
theorem min_sound {φ : Phi} {w : World} {l : List V} {m : List Value} {r : V} (ts : Array TypeId) (ty : TypeId) (hl : RvL φ l m) (h : minV l = some r) : ∃ u, (Builtin.min_ ts ty ⟨m⟩).run P w = .ok u w ∧ Rv φ r u := by
  cases hl with
  | nil => simp [minV] at h
  | cons v u l m hv hl => exact foldV_run (fun x y r a b hx hy h => min2_run hx hy h) hv hl h
theorem max_sound {φ : Phi} {w : World} {l : List V} {m : List Value} {r : V} (ts : Array TypeId) (ty : TypeId) (hl : RvL φ l m) (h : maxV l = some r) : ∃ u, (Builtin.max_ ts ty ⟨m⟩).run P w = .ok u w ∧ Rv φ r u := by
  cases hl with
  | nil => simp [maxV] at h
  | cons v u l m hv hl => exact foldV_run (fun x y r a b hx hy h => max2_run hx hy h) hv hl h

/-! Methods behind interfaces. -/
inductive RPl (φ : Phi) : Pl → Place → Prop
  | val (v : V) (u : Value) : Rv φ v u → RPl φ (.val v) (.val u)
  | var (b o : Nat) (l : Loc) : φ b = some l → RPl φ (.var b o) (.var ⟨l.blk, l.dl + o, none⟩)

theorem plGet_run {φ : Phi} {s : St} {w : World} (hh : Rh φ s w) {t : TypeId} {x : Pl} {y : Place} {r : V} (hx : RPl φ x y) (h : Pl.get P s t x = some r) :
    ∃ u, (y.get t).run P w = .ok u w ∧ Rv φ r u := by
  cases hx with
  | val v u hv => simp only [Pl.get, Option.some.injEq] at h; subst h; exact ⟨u, rfl, hv⟩
  | var b o l hl => exact ldVar_sound hh hl h

theorem follow_run {φ : Phi} {s : St} {w : World} (hh : Rh φ s w) : ∀ {path : List FieldStep} {t : TypeId} {x : Pl} {y : Place} {r : TypeId × Pl}, RPl φ x y → followV P s path t x = some r →
    ∃ z, (follow path t y).run P w = .ok (r.1, z) w ∧ RPl φ r.2 z
  | [], t, x, y, r, hx, h => by simp only [followV, Option.some.injEq] at h; subst h; exact ⟨y, rfl, hx⟩
  | st :: rest, t, x, y, r, hx, h => by
    simp only [followV, Option.bind_some'] at h
    obtain ⟨f, hf, x', hx', h⟩ := h
    obtain ⟨fs, hu, hfs⟩ := fieldOf_some hf
    unfold stepPl at hx'
    cases hd : st.deref with
    | true =>
      rw [hd] at hx'
      simp only [cond_true, Option.bind_some', cond_none_some, Option.some.injEq] at hx'
      obtain ⟨v, hv, p, hp, n, hn, hz, rfl⟩ := hx'
      obtain ⟨u, hu1, hu2⟩ := plGet_run hh hx hv
      have := asPtr_some hp; subst this
      cases hu2; rename_i l hl
      obtain ⟨z, hz1, hz2⟩ := follow_run hh (RPl.var p.1 (p.2 + f.offset) l hl) h
      refine ⟨z, ?_, hz2⟩
      rw [← Nat.add_assoc] at hz1
      simp only [follow, Sem.run_bind, run_underlying hu, Result.andThen_ok, hfs, hd, if_true, hu1, asAddr, Sem.run_pure, fieldPlace_run hn (nat_beq_f hz), hz1]
    | false =>
      rw [hd] at hx'
      simp only [cond_false] at hx'
      cases hx with
      | var b o l hl =>
        simp only [Option.bind_some', cond_none_some, Option.some.injEq] at hx'
        obtain ⟨n, hn, hz, rfl⟩ := hx'
        obtain ⟨z, hz1, hz2⟩ := follow_run hh (RPl.var b (o + f.offset) l hl) h
        refine ⟨z, ?_, hz2⟩
        rw [← Nat.add_assoc] at hz1
        simp only [follow, Sem.run_bind, run_underlying hu, Result.andThen_ok, hfs, hd, Bool.false_eq_true, if_false, fieldPlace_run hn (nat_beq_f hz), hz1]
      | val v u hv =>
        simp only [Option.bind_some', Option.map_some'] at hx'
        obtain ⟨cs, hcs, v', hv', rfl⟩ := hx'
        have := asAggV_some hcs; subst this
        cases hv; rename_i us hus
        obtain ⟨u', h1, h2⟩ := part_sound (P := P) (w := w) hus hv'
        obtain ⟨z, hz1, hz2⟩ := follow_run hh (RPl.val v' u' h2) h
        refine ⟨z, ?_, hz2⟩
        simp only [follow, Sem.run_bind, run_underlying hu, Result.andThen_ok, hfs, hd, Bool.false_eq_true, if_false, h1, hz1]

theorem recvAt_run {φ : Phi} {s : St} {w : World} (hh : Rh φ s w) {t : TypeId} {x : Pl} {y : Place} {ptr : Bool} {r : V} (hx : RPl φ x y) (h : recvAt P s t x ptr = some r) (nm : Option String) :
    ∃ u, (receiverAt t y ptr nm).run P w = .ok u w ∧ Rv φ r u := by
  simp only [recvAt, Option.bind_some'] at h
  obtain ⟨d, hd, h⟩ := h
  cases he : ptrElem d with
  | some e =>
    have : d = .pointer e := by cases d <;> simp [ptrElem] at he; subst he; rfl
    subst this
    rw [he] at h
    cases ptr with
    | true =>
      simp only [cond_true] at h
      obtain ⟨u, h1, h2⟩ := plGet_run hh hx h
      exact ⟨u, by simp only [receiverAt, Sem.run_bind, run_underlying hd, Result.andThen_ok, h1], h2⟩
    | false =>
      simp only [cond_false, Option.bind_some'] at h
      obtain ⟨v, hv, p, hp, h⟩ := h
      obtain ⟨u, h1, h2⟩ := plGet_run hh hx hv
      have := asPtr_some hp; subst this
      cases h2; rename_i l hl
      obtain ⟨u', h3, h4⟩ := ldVar_sound hh hl h
      refine ⟨u', ?_, h4⟩
      cases nm with
      | none => simp only [receiverAt, Sem.run_bind, run_underlying hd, Result.andThen_ok, h1, Sem.run_pure, asAddr, h3]
      | some n =>
        have : (Builtin.ssaWrapNilChk_ #[t] t #[.pointer (some ⟨l.blk, l.dl + p.2, none⟩), strVal "", strVal n]).run P w = .ok (.pointer (some ⟨l.blk, l.dl + p.2, none⟩)) w := rfl
        simp only [receiverAt, Sem.run_bind, run_underlying hd, Result.andThen_ok, h1, this, asAddr, Sem.run_pure, h3]
  | none =>
    rw [he] at h
    have hnp : ∀ e, d ≠ .pointer e := fun e hde => by subst hde; simp [ptrElem] at he
    cases ptr with
    | true =>
      simp only [cond_true] at h
      cases hx with
      | val v u hv => cases h
      | var b o l hl =>
        cases h
        refine ⟨_, ?_, .ptr b o l hl⟩
        simp only [receiverAt, Sem.run_bind, run_underlying hd, Result.andThen_ok]
        cases d <;> first | exact absurd rfl (hnp _) | rfl
    | false =>
      simp only [cond_false] at h
      obtain ⟨u, h1, h2⟩ := plGet_run hh hx h
      refine ⟨u, ?_, h2⟩
      simp only [receiverAt, Sem.run_bind, run_underlying hd, Result.andThen_ok]
      cases d <;> first | exact absurd rfl (hnp _) | exact h1

theorem method_run {φ : Phi} {s : St} {w : World} (hh : Rh φ s w) : ∀ {n N : Nat} {t : TypeId} {v : V} {a : Value} {name : String} {r : FuncId × V}, n ≤ N → Rv φ v a → methodV P s n t v name = some r →
    ∃ u, (method N t a name).run P w = .ok (r.1, u) w ∧ Rv φ r.2 u
  | 0, N, t, v, a, name, r, _, _, h => by simp [methodV] at h
  | n + 1, N, t, v, a, name, r, hN, hv, h => by
    obtain ⟨N', rfl⟩ : ∃ m, N = m + 1 := ⟨N - 1, by omega⟩
    simp only [methodV, Option.bind_some'] at h
    obtain ⟨i, hi, m, hm, y, hy, h⟩ := h
    obtain ⟨z, hz1, hz2⟩ := follow_run hh (RPl.val v a hv) hy
    have hfind : i.methods.find? (·.name == name) = some m := by rw [← Array.find?_toList]; exact hm
    cases hmf : m.func with
    | some g =>
      rw [hmf] at h
      obtain ⟨u', hu', rfl⟩ := Option.map_some'.1 h
      obtain ⟨u, h1, h2⟩ := recvAt_run hh hz2 hu' (if m.path.isEmpty then some ((name.splitOn ".").getLastD name) else none)
      refine ⟨u, ?_, h2⟩
      simp only [method, Sem.run_bind, run_inf hi, Result.andThen_ok, hfind, hz1, hmf, h1, Sem.run_pure]
    | none =>
      rw [hmf] at h
      simp only [Option.bind_some'] at h
      obtain ⟨w', hw', q, hq, h⟩ := h
      obtain ⟨u, h1, h2⟩ := plGet_run hh hz2 hw'
      have := asIface_some hq; subst this
      cases h2; rename_i u' hu'
      obtain ⟨u2, h3, h4⟩ := method_run hh (Nat.le_of_succ_le_succ hN) hu' h
      refine ⟨u2, ?_, h4⟩
      simp only [method, Sem.run_bind, run_inf hi, Result.andThen_ok, hfind, hz1, hmf, h1, h3]
end
end Go.Ev
