/- A drawn region: one row more. -/
import Derived.Test.YtcbhnjlbolafpabGreatDoorEvZG
set_option linter.unusedSimpArgs false
set_option linter.unusedVariables false
namespace Go.Ev
section
variable {P : Program} {r : R} {ro : Option Nat} {opsA : Array Oper} {A : Nat → Act} {S : Nat → St} {ld : List Ld} {cr : List Nat}

theorem Inv.rh {ops : List Oper} {φ0 : Phi} {w0 : World} {D : Nat → Prop} {q : Nat} {φ : Phi} {w : World} {a : Act} {ca : Go.Act} (h : Inv ops A S cr φ0 w0 D q φ w a ca) : Rh φ (S q) w := by
  have hold : ∀ {b x}, (S q).get b = some x → G ops S cr q b x := fun {b x} hx => by
    rcases Nat.lt_or_ge b (S q).next with y | y
    · exact .inl ⟨y, hx⟩
    · rw [h.wf b y] at hx; cases hx
  exact ⟨fun b l x h1 h2 => h.rg.blk b l x h1 (hold h2), fun b b' l l' x x' h1 h2 h3 h4 => h.rg.inj b b' l l' x x' h1 h2 (hold h3) (hold h4), h.rg.lt, h.wf⟩

/-- an operation that gave a value -/
theorem val_step {φ : Phi} {s s' : St} {w : World} {a : Act} {ca : Go.Act} {o : Oper} {j : Nat} {rest : List Nat} {b : Frame} {k : List Item} {cs : List Frame} {v : V} (ho : opsA[j]? = some o) (hw : Region.wanted o (yielded opsA ca.tmps) = true)
    (hx : execA P a s o.op = some (.val v s')) (hO : OpS P φ s w (execOp ca.eval o) (.val v s')) :
    ∃ φ' w' u, Steps P (lone (b.atR ca (.inRegion opsA (j :: rest) :: k)) cs w) (lone (b.atR (ca.put o.dst u) (.inRegion opsA rest :: k)) cs w') ∧ Rv φ' v u ∧ Rh φ' s' w' ∧ Ext φ s w φ' s' w' := by
  obtain ⟨φ', w', nx, cu, r1, r2, r3, r4, r5⟩ := hO
  refine ⟨φ', w', cu, .one ?_, r3, r4, r5⟩
  have hg := stepGR_op (P := P) (b := b) (a := ca) (k := k) (cs := cs) (w := w) (rest := rest) ho hw
  rw [← fin_eq (i := j) (rest := rest) ho]
  refine step_lone_go ?_
  rcases sem_eq hx b.roundOf ca.eval with h | ⟨_, d, h⟩
  · rw [hg, h]
    rcases r2 with rfl | ⟨rfl, rfl⟩ <;> simp [stepG.apply, r1]
  · cases h

theorem row_step (hr : Sound P r) (hnx : NxR r) (g : Reg P r ro opsA.toList A S ld cr) (hs : (A 0).size ≤ TN) {φ0 : Phi} {w0 : World} {D : Nat → Prop} {p : Nat} {φ : Phi} {w : World} {a : Act} {ca : Go.Act} (h0 : Inv opsA.toList A S cr φ0 w0 D p φ w a ca)
    {opsB : Array Oper} (hB : ∀ (j : Nat) (o : Oper), opsA[j]? = some o → opsB[j]? = some o ∧ ∀ a, wantedA opsB.toList a o.guard = wantedA opsA.toList a o.guard) {j : Nat} (hjn : j < opsA.size) (hj : ¬ D j) (hD' : Closed opsA.toList (Plus D j)) {b : Frame} {X : Cx} {u : List PanicEntry} (hrc : RRc φ a.rc X u) (hk : b.kind = X.kind) (hro : Ro φ ro b.roundOf) (rest : List Nat) (k : List Item) :
    ∃ p' φ' w' a' ca' u', Inv opsA.toList A S cr φ0 w0 (Plus D j) p' φ' w' a' ca' ∧ RRc φ' a'.rc X u' ∧ Ro φ' ro b.roundOf ∧
      Steps P (lone (b.atR ca (.inRegion opsB (j :: rest) :: k)) (X.list u) w) (lone (b.atR ca' (.inRegion opsB rest :: k)) (X.list u') w') := by
  obtain ⟨q, hpq, hqn, hqc, hno⟩ := next_chain g (opsA.toList.length - p) p (by have := h0.pn; omega)
  have h := h0.lift g hnx hpq hqn hno
  have hoA : opsA[j]? = some opsA[j] := by simp [hjn]
  have ho : opsA.toList[j]? = some opsA[j] := by simp [hjn]
  generalize opsA[j] = o at hoA ho
  obtain ⟨hev, hwa⟩ := g.same_eval hs h.cl ho hj hD' h.la
  obtain ⟨hoA, hBa⟩ := hB j o hoA
  have hwa := (hBa a).trans hwa
  have hwc := wanted_sound h.ra (ops := opsB) (o := o)
  have hjn' : j < opsA.toList.length := by simpa using hjn
  by_cases hjc : j ∈ cr
  · -- the chain's next
    have hall : ∀ c ∈ cr, c < j → D c := fun c hc hlt => by
      rcases g.chain _ hD' c hc j hjc hlt (.inl rfl) with e | e
      · omega
      · exact e
    have hjq : j = q := by
      have h1 : ¬ j < q := fun e => hj ((h.ch j hjc).2 e)
      rcases hqc with e | hqc
      · omega
      · rcases Nat.lt_or_ge q j with y | y
        · have := (h.ch q hqc).1 (hall q hqc y); omega
        · omega
    subst hjq
    obtain ⟨o', ho', hw', hc'⟩ := (g.crM j).1 hjc
    rw [ho] at ho'; cases ho'
    rcases g.row j o ho with ⟨hw0, _⟩ | ⟨_, out, hout, hdo, _⟩
    · rw [hw0] at hw'; cases hw'
    · obtain ⟨⟨v, hv⟩, hsz1, hb⟩ := doOut_act hdo
      obtain ⟨a', hdo', hsz', hdf', hrc', hget⟩ := hb a (h.sz.trans (g.size (j := j) (by omega)).symm) h.df h.rc
      have hx : opF P r ro opsB.toList o a (S j) = some (.norm, a', S (j + 1)) := by
        unfold opF
        rw [hwa, hw', cond_true, execA_congr hev, hout]
        exact hdo'
      obtain ⟨φ', w', ca', u', c1, c2, c3⟩ := op_sound hr hnx (b := b) (k := k) (X := X) (rest := rest) ⟨h.rh, h.ra, hrc, hk, hro⟩ hoA hx (fun c hc1 hc2 => h.un j hjn' hj c hc1 hc2)
      refine ⟨j + 1, φ', w', a', ca', u', ?_, c1.hrc, c1.hro, c3⟩
      refine h.phase g hnx hs ho hj hD' (.inr ⟨rfl, rfl⟩) (fun c hc => ?_) c2 c1.hh c1.ha (by rw [hsz', h.sz]) hv (hget v hv (fun d hd => by rw [g.size (j := j) (by omega)]; exact g.dst j o ho d hd) (by rw [g.size (j := j) (by omega)]; exact hs)) hdf' hrc'
      constructor
      · rintro (rfl | e)
        · omega
        · have := (h.ch c hc).1 e; omega
      · intro e
        by_cases e' : c = j
        · exact .inl e'
        · exact .inr ((h.ch c hc).2 (by omega))
  · obtain ⟨v, hA, hkind⟩ := g.kind ho hjc
    have hv : ∀ t, (A (j + 1)).get t = ((A j).put o.dst v).get t := fun t => by rw [hA]
    have hch : ∀ c ∈ cr, (Plus D j c ↔ c < q) := fun c hc => by
      rw [← h.ch c hc]
      constructor
      · rintro (rfl | e)
        · exact absurd hc hjc
        · exact e
      · exact .inr
    have hdf : (a.put o.dst v).defers = (A q).defers := by rw [Act.put_defers]; exact h.df
    have hrcq : (a.put o.dst v).rc = (A q).rc := by rw [Act.put_rc]; exact h.rc
    have keep : wantedA opsA.toList (A j) o.guard = true → execA P (A j) (S q) o.op = some (.val v (S q)) → ∃ p' φ' w' a' ca' u', Inv opsA.toList A S cr φ0 w0 (Plus D j) p' φ' w' a' ca' ∧ RRc φ' a'.rc X u' ∧ Ro φ' ro b.roundOf ∧
        Steps P (lone (b.atR ca (.inRegion opsB (j :: rest) :: k)) (X.list u) w) (lone (b.atR ca' (.inRegion opsB rest :: k)) (X.list u') w') := by
      intro hw hx
      rw [← execA_congr hev] at hx
      have hO := execA_sound (P := P) h.rh h.ra (o := o) (fun v' s' e => by cases e; exact fun c h1 h2 => by omega) hx
      obtain ⟨φ', w', cu, c1, c2, c3, c4⟩ := val_step (b := b) (k := k) (cs := X.list u) (rest := rest) hoA (by rw [hwc, hwa]; exact hw) hx hO
      exact ⟨q, φ', w', _, _, u, h.phase g hnx hs ho hj hD' (.inl ⟨rfl, hjc⟩) hch c4 c3 ((h.ra.mono c4.le).put c2 o.dst) (by rw [Act.put_size]; exact h.sz) hv (fun _ => rfl) hdf hrcq, by rw [Act.put_rc]; exact hrc.mono c4.le, hro.mono c4.le, c1⟩
    cases hkind with
    | off hw hu he =>
      subst hu
      refine ⟨q, φ, w, _, _, u, h.phase g hnx hs ho hj hD' (.inl ⟨rfl, hjc⟩) hch (Ext.refl _ _ _) h.rh (h.ra.put Rv.undef o.dst) (by rw [Act.put_size]; exact h.sz) hv (fun _ => rfl) hdf hrcq, by rw [Act.put_rc]; exact hrc, hro, ?_⟩
      have := stepR_op_skip (P := P) (b := b) (a := ca) (k := k) (cs := X.list u) (w := w) (ops := opsB) (i := j) (rest := rest) (by simp [hoA, hwc, hwa, hw])
      rw [hoA] at this
      exact .one this
    | read hw hm hrd hcc he =>
      refine keep hw ?_
      have hsee := ldOk_spec g.crS (fun c hc => g.lt hc) (g.reads _ hm) q hqc (fun c hc hlt => ?_) (fun hc => ?_)
      · unfold seesIt at hsee
        split at hsee
        · rename_i v' hv'
          have := V.beq_eq hsee
          subst this
          obtain ⟨out, hout, hval⟩ := Option.bind_some'.1 hv'
          obtain ⟨v2, rfl⟩ := read_sound hcc hrd hout
          cases hval
          exact hout
        · cases hsee
      · cases hbit : bit (bfL opsA.toList) c j with
        | false => rfl
        | true => exact absurd (bit_closed h.cl _ _ hbit ((h.ch c hc).2 hlt)) hj
      · cases hbit : bit (bfL opsA.toList) j q with
        | false => rfl
        | true =>
          rcases bit_closed hD' _ _ hbit (.inl rfl) with e | e
          · subst e; exact absurd hc hjc
          · have := (h.ch q hc).1 e; omega
    | pure hw hall he => exact keep hw (hall _)
    | make x bn hw hx hn hall =>
      obtain ⟨s2, hn2, hx2⟩ := hall ⟨.nil HD, (S j).next⟩ rfl
      rw [← execA_congr hev] at hx2
      have hnil : ∀ c, (⟨.nil HD, (S j).next⟩ : St).get c = none := fun c => T.get_nil _ _
      have hh1 : Rh φ ⟨.nil HD, (S j).next⟩ w := ⟨fun c l y _ h2 => (by rw [hnil] at h2; cases h2), fun c c' l l' y y' _ _ h2 => (by rw [hnil] at h2; cases h2), h.rg.lt, fun c _ => hnil c⟩
      obtain ⟨e1, e2, _, _⟩ := St.new_spec hn
      obtain ⟨f1, f2, _, _⟩ := St.new_spec hn2
      have hO := execA_sound (P := P) hh1 h.ra (o := o) (fun v' s' e => by cases e; exact fun c h1 h2 => h.un j hjn' hj c h1 (by have h2 : c < s2.next := h2; have f2 : s2.next = (S j).next + 1 := f2; omega)) hx2
      obtain ⟨φ', w', cu, c1, c2, c3, c4⟩ := val_step (b := b) (k := k) (cs := X.list u) (rest := rest) hoA (by rw [hwc, hwa]; exact hw) hx2 hO
      exact ⟨q, φ', w', _, _, u, h.make g hnx hs ho hj hD' hjc hx hn hnil rfl hn2 c4 c3 ((h.ra.mono c4.le).put c2 o.dst) (by rw [Act.put_size]; exact h.sz) hv (fun _ => rfl) hdf hrcq, by rw [Act.put_rc]; exact hrc.mono c4.le, hro.mono c4.le, c1⟩
end
end Go.Ev
