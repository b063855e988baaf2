/- A drawn region: what holds whatever rows have been done. -/
import Derived.Test.YtcbhnjlbolafpabGreatDoorEvZF
set_option linter.unusedSimpArgs false
set_option linter.unusedVariables false
namespace Go.Ev
section
variable {P : Program} {r : R} {ro : Option Nat} {ops : List Oper} {A : Nat → Act} {S : Nat → St} {ld : List Ld} {cr : List Nat}

structure Inv (ops : List Oper) (A : Nat → Act) (S : Nat → St) (cr : List Nat) (φ0 : Phi) (w0 : World) (D : Nat → Prop) (p : Nat) (φ : Phi) (w : World) (a : Act) (ca : Go.Act) : Prop where
  cl : Closed ops D
  dn : ∀ j, D j → j < ops.length
  pn : p ≤ ops.length
  ch : ∀ c ∈ cr, (D c ↔ c < p)
  rg : Rg φ (G ops S cr p) w
  un : ∀ j, j < ops.length → ¬ D j → ∀ b, (S j).next ≤ b → b < (S (j + 1)).next → φ b = none
  wf : ∀ b, (S p).next ≤ b → (S p).get b = none
  ui : ∀ j x b, j < ops.length → ¬ D j → j ∉ cr → (S j).new x = some (b, S (j + 1)) → b < (S p).next → (S p).get b = some x
  ra : Ra φ a ca
  sz : a.size = (A 0).size
  la : ∀ t, Last ops A D t (a.get t)
  df : a.defers = (A p).defers
  rc : a.rc = (A p).rc
  le : PLe φ0 φ
  out : ∀ b, b < (S 0).next ∨ (S ops.length).next ≤ b → φ b = φ0 b
  abs : ∀ b, b < (S 0).next ∨ (S ops.length).next ≤ b → (φ0 b = none ∨ (S 0).get b = none) → (S p).get b = (S 0).get b
  gz : w0.heap.size ≤ w.heap.size
  frame : ∀ B, B < w0.heap.size → (∀ b l x, φ0 b = some l → (S 0).get b = some x → x.live → l.blk ≠ B) → w.heap[B]? = w0.heap[B]?
  back : ∀ b l x, φ b = some l → G ops S cr p b x → x.live → l.blk < w0.heap.size → ∃ b0 l0 x0, φ0 b0 = some l0 ∧ (S 0).get b0 = some x0 ∧ x0.live ∧ l0.blk = l.blk
  sm : Same w0 w

theorem Inv.lift (g : Reg P r ro ops A S ld cr) (hnx : NxR r) {φ0 : Phi} {w0 : World} {D : Nat → Prop} {p q : Nat} {φ : Phi} {w : World} {a : Act} {ca : Go.Act} (h : Inv ops A S cr φ0 w0 D p φ w a ca)
    (hpq : p ≤ q) (hq : q ≤ ops.length) (hc : ∀ j, p ≤ j → j < q → j ∉ cr) : Inv ops A S cr φ0 w0 D q φ w a ca := by
  obtain ⟨a1, a2, a3, a4⟩ := g.quiet hnx hpq hq hc
  have n0 := g.next hnx (Nat.zero_le p) h.pn
  have n1 := g.next hnx hpq hq
  have n2 := g.next hnx hq (Nat.le_refl _)
  refine ⟨h.cl, h.dn, hq, fun c hcr => ?_, h.rg.sub fun b x hx => g.G_back hnx hpq hq hc hx, h.un, fun b hb => ?_, fun j x b h1 h2 h3 h4 h5 => ?_, h.ra, h.sz, h.la, by rw [a3]; exact h.df, by rw [a4]; exact h.rc, h.le, h.out,
    fun b hb hh => ?_, h.gz, h.frame, fun b l x h1 h2 => h.back b l x h1 (g.G_back hnx hpq hq hc h2), h.sm⟩
  · rw [h.ch c hcr]
    constructor
    · intro x; omega
    · intro x
      rcases Nat.lt_or_ge c p with y | y
      · exact y
      · exact absurd hcr (hc c y x)
  · rw [a1 b (.inr hb)]; exact h.wf b (by omega)
  · by_cases hb : b < (S p).next
    · rw [a1 b (.inl hb)]; exact h.ui j x b h1 h2 h3 h4 hb
    · obtain ⟨y, j', _, j1, j2, j3, j4⟩ := a2 b (by omega) h5
      have : j = j' := by
        obtain ⟨e1, e2, _, _⟩ := St.new_spec h4
        obtain ⟨f1, f2, _, _⟩ := St.new_spec j3
        rcases Nat.lt_trichotomy j j' with x | x | x
        · have := g.next hnx (show j + 1 ≤ j' by omega) (by omega); omega
        · exact x
        · have := g.next hnx (show j' + 1 ≤ j by omega) (by omega); omega
      subst this
      rw [j4, (new_inj h4 j3 rfl).1]
  · rw [a1 b (by omega)]; exact h.abs b hb hh

/-- memory, behind an operation that ran on all of it -/
theorem Inv.phase (g : Reg P r ro ops A S ld cr) (hnx : NxR r) {φ0 : Phi} {w0 : World} {D : Nat → Prop} {q q' : Nat} {φ φ' : Phi} {w w' : World} {a a' : Act} {ca ca' : Go.Act} (h : Inv ops A S cr φ0 w0 D q φ w a ca)
    {j : Nat} {o : Oper} (hs : (A 0).size ≤ TN) (ho : ops[j]? = some o) (hj : ¬ D j) (hD' : Closed ops (Plus D j)) (hq : (q' = q ∧ j ∉ cr) ∨ (q' = q + 1 ∧ j = q)) (hch : ∀ c ∈ cr, (Plus D j c ↔ c < q'))
    (e : Ext φ (S q) w φ' (S q') w') (h' : Rh φ' (S q') w') (ra : Ra φ' a' ca') (sz : a'.size = (A 0).size) {v : V} (hv : ∀ t, (A (j + 1)).get t = ((A j).put o.dst v).get t) (ha' : ∀ t, a'.get t = (a.put o.dst v).get t)
    (df : a'.defers = (A q').defers) (rc : a'.rc = (A q').rc) : Inv ops A S cr φ0 w0 (Plus D j) q' φ' w' a' ca' := by
  have hjn : j < ops.length := (List.getElem?_eq_some_iff.1 ho).1
  have hq'n : q' ≤ ops.length := by have := h.pn; omega
  have n0 := g.next hnx (Nat.zero_le q) h.pn
  have n1 : (S q).next ≤ (S q').next := e.nx
  have n2 := g.next hnx hq'n (Nat.le_refl _)
  have hGb : ∀ {b x}, (S q').next ≤ b → Init ops S cr b x → G ops S cr q b x := fun hb hi => .inr ⟨by omega, hi⟩
  have hold : ∀ {b x}, (S q).get b = some x → G ops S cr q b x := fun {b x} hx => by
    rcases Nat.lt_or_ge b (S q).next with y | y
    · exact .inl ⟨y, hx⟩
    · rw [h.wf b y] at hx; cases hx
  have hfar : ∀ {b}, (S q').next ≤ b → φ' b = φ b := fun hb => e.out _ (.inr hb)
  have hkeep : ∀ {b l x}, φ b = some l → (S q').next ≤ b → Init ops S cr b x → w'.heap[l.blk]? = w.heap[l.blk]? := fun {b l x} hb hn hi => by
    refine e.frame _ (h.rg.lt _ _ hb) fun b1 l1 x1 q1 q2 q3 q4 => ?_
    have := h.rg.inj b1 b l1 l x1 x q1 hb (hold q2) (hGb hn hi) q3 hi.1 q4
    subst this
    rw [h.wf b1 (by omega)] at q2; cases q2
  refine ⟨hD', fun i hi => ?_, hq'n, hch, ⟨?_, ?_, h'.lt⟩, ?_, h'.wf, ?_, ra, sz, fun t => g.last_put hs h.cl ho hj hv h.sz h.la ha' t, df, rc, fun b l hb => e.le _ _ (h.le _ _ hb), fun b hb => ?_, fun b hb hh => ?_, Nat.le_trans h.gz e.size, fun B hB hh => ?_, ?_, h.sm.trans e.sm⟩
  · rcases hi with rfl | hi
    · exact hjn
    · exact h.dn i hi
  · intro b l x hb hG
    rcases hG with ⟨h1, h2⟩ | ⟨h1, h2⟩
    · exact h'.blk b l x hb h2
    · rw [hfar h1] at hb
      exact (h.rg.blk b l x hb (hGb h1 h2)).mono e.le (hkeep hb h1 h2)
  · intro b b' l l' x x' hb hb' hG hG' hl hl' he
    have mixed : ∀ {b b' l l' x x'}, φ' b = some l → φ' b' = some l' → (S q').get b = some x → (S q').next ≤ b' → Init ops S cr b' x' → x.live → l.blk = l'.blk → False := by
      intro b b' l l' x x' hb hb' hx hn hi hl he
      rw [hfar hn] at hb'
      obtain ⟨b0, l0, x0, z1, z2, z3, z4⟩ := e.back b l x hb hx hl (by rw [he]; exact h.rg.lt _ _ hb')
      have := h.rg.inj b0 b' l0 l' x0 x' z1 hb' (hold z2) (hGb hn hi) z3 hi.1 (z4.trans he)
      subst this
      rw [h.wf b0 (by omega)] at z2; cases z2
    rcases hG with ⟨h1, h2⟩ | ⟨h1, h2⟩ <;> rcases hG' with ⟨h3, h4⟩ | ⟨h3, h4⟩
    · exact h'.inj b b' l l' x x' hb hb' h2 h4 hl hl' he
    · exact (mixed hb hb' h2 h3 h4 hl he).elim
    · exact (mixed hb' hb h4 h1 h2 hl' he.symm).elim
    · rw [hfar h1] at hb; rw [hfar h3] at hb'
      exact h.rg.inj b b' l l' x x' hb hb' (hGb h1 h2) (hGb h3 h4) hl hl' he
  · intro i hi hnd b hb1 hb2
    have hne : i ≠ j := fun e => hnd (.inl e)
    have hb := h.un i hi (fun e => hnd (.inr e)) b hb1 hb2
    rw [e.out b ?_]; exact hb
    rcases hq with ⟨rfl, _⟩ | ⟨rfl, rfl⟩
    · omega
    · rcases Nat.lt_or_ge i j with y | y
      · have := g.next hnx (show i + 1 ≤ j by omega) (by omega); omega
      · have := g.next hnx (show j + 1 ≤ i by omega) (by omega); omega
  · intro i x b hi hnd hic hnew hb
    have hne : i ≠ j := fun e => hnd (.inl e)
    have hnd' : ¬ D i := fun e => hnd (.inr e)
    obtain ⟨e1, e2, _, _⟩ := St.new_spec hnew
    rcases hq with ⟨rfl, _⟩ | ⟨rfl, rfl⟩
    · have hg := h.ui i x b hi hnd' hic hnew hb
      rw [e.abs b (.inl hb) (.inl (h.un i hi hnd' b (by omega) (by omega)))]; exact hg
    · rcases Nat.lt_or_ge i j with y | y
      · have := g.next hnx (show i + 1 ≤ j by omega) (by omega)
        have hg := h.ui i x b hi hnd' hic hnew (by omega)
        rw [e.abs b (.inl (by omega)) (.inl (h.un i hi hnd' b (by omega) (by omega)))]; exact hg
      · have := g.next hnx (show j + 1 ≤ i by omega) (by omega); omega
  · rw [e.out b (by omega)]; exact h.out b hb
  · have ha := h.abs b hb hh
    rw [e.abs b (by omega) ?_, ha]
    rcases hh with hh | hh
    · left; rw [h.out b hb]; exact hh
    · right; rw [ha]; exact hh
  · rw [e.frame B (Nat.lt_of_lt_of_le hB h.gz) ?_]
    · exact h.frame B hB hh
    · intro b l x q1 q2 q3 q4
      obtain ⟨b0, l0, x0, z1, z2, z3, z4⟩ := h.back b l x q1 (hold q2) q3 (by omega)
      exact hh b0 l0 x0 z1 z2 z3 (z4.trans q4)
  · intro b l x hb hG hl hlt
    rcases hG with ⟨h1, h2⟩ | ⟨h1, h2⟩
    · obtain ⟨b0, l0, x0, z1, z2, z3, z4⟩ := e.back b l x hb h2 hl (Nat.lt_of_lt_of_le hlt h.gz)
      obtain ⟨b1, l1, x1, y1, y2, y3, y4⟩ := h.back b0 l0 x0 z1 (hold z2) z3 (by omega)
      exact ⟨b1, l1, x1, y1, y2, y3, y4.trans z4⟩
    · rw [hfar h1] at hb
      exact h.back b l x hb (hGb h1 h2) hl hlt

/-- memory, behind an operation that made a block without looking -/
theorem Inv.make (g : Reg P r ro ops A S ld cr) (hnx : NxR r) {φ0 : Phi} {w0 : World} {D : Nat → Prop} {q : Nat} {φ φ' : Phi} {w w' : World} {a a' : Act} {ca ca' : Go.Act} (h : Inv ops A S cr φ0 w0 D q φ w a ca)
    {j : Nat} {o : Oper} (hs : (A 0).size ≤ TN) (ho : ops[j]? = some o) (hj : ¬ D j) (hD' : Closed ops (Plus D j)) (hjc : j ∉ cr) {x : Blk} {b : Nat} (hx : x.live) (hn : (S j).new x = some (b, S (j + 1)))
    {s1 s2 : St} (hs1 : ∀ c, s1.get c = none) (hs1n : s1.next = (S j).next) (hn2 : s1.new x = some (b, s2)) (e : Ext φ s1 w φ' s2 w') (h' : Rh φ' s2 w') (ra : Ra φ' a' ca') (sz : a'.size = (A 0).size) {v : V}
    (hv : ∀ t, (A (j + 1)).get t = ((A j).put o.dst v).get t) (ha' : ∀ t, a'.get t = (a.put o.dst v).get t) (df : a'.defers = (A q).defers) (rc : a'.rc = (A q).rc) : Inv ops A S cr φ0 w0 (Plus D j) q φ' w' a' ca' := by
  have hjn : j < ops.length := (List.getElem?_eq_some_iff.1 ho).1
  obtain ⟨e1, e2, _, e4⟩ := St.new_spec hn
  obtain ⟨f1, f2, _, f4⟩ := St.new_spec hn2
  have n0 := g.next hnx (Nat.zero_le j) (by omega)
  have n1 := g.next hnx (show j + 1 ≤ ops.length by omega) (Nat.le_refl _)
  have hout : ∀ {c}, c ≠ b → φ' c = φ c := fun {c} hc => e.out c (by omega)
  have hheap : ∀ B, B < w.heap.size → w'.heap[B]? = w.heap[B]? := fun B hB => e.frame B hB fun c l y _ hc => by rw [hs1 c] at hc; cases hc
  have hb2 : s2.get b = some x := by rw [f4, if_pos (by omega)]
  have hnew : ∀ l, φ' b = some l → w.heap.size ≤ l.blk := fun l hl => by
    rcases Nat.lt_or_ge l.blk w.heap.size with y | y
    · obtain ⟨b0, l0, x0, _, z2, _⟩ := e.back b l x hl hb2 hx y
      rw [hs1 b0] at z2; cases z2
    · exact y
  have hGb : ∀ y, G ops S cr q b y → y = x := fun y hy => by
    rcases hy with ⟨h1, h2⟩ | ⟨h1, h2⟩
    · have := h.ui j x b hjn hj hjc hn h1
      rw [this] at h2; cases h2; rfl
    · obtain ⟨_, i, hi, hic, hnw⟩ := h2
      obtain ⟨k1, k2, _, _⟩ := St.new_spec hnw
      have : i = j := by
        rcases Nat.lt_trichotomy i j with z | z | z
        · have := g.next hnx (show i + 1 ≤ j by omega) (by omega); omega
        · exact z
        · have := g.next hnx (show j + 1 ≤ i by omega) (by omega); omega
      subst this
      exact (new_inj hnw hn rfl).1
  refine ⟨hD', fun i hi => ?_, h.pn, fun c hc => ?_, ⟨?_, ?_, h'.lt⟩, ?_, h.wf, fun i y c h1 h2 => h.ui i y c h1 (fun z => h2 (.inr z)), ra, sz, fun t => g.last_put hs h.cl ho hj hv h.sz h.la ha' t, df, rc,
    fun c l hc => e.le _ _ (h.le _ _ hc), fun c hc => ?_, h.abs, Nat.le_trans h.gz e.size, fun B hB hh => by rw [hheap B (Nat.lt_of_lt_of_le hB h.gz)]; exact h.frame B hB hh, ?_, h.sm.trans e.sm⟩
  · rcases hi with rfl | hi
    · exact hjn
    · exact h.dn i hi
  · rw [← h.ch c hc]
    constructor
    · rintro (rfl | y)
      · exact absurd hc hjc
      · exact y
    · exact .inr
  · intro c l y hc hG
    by_cases hcb : c = b
    · subst hcb
      rw [hGb y hG]
      exact h'.blk _ l x hc hb2
    · rw [hout hcb] at hc
      exact (h.rg.blk c l y hc hG).mono e.le (hheap _ (h.rg.lt _ _ hc))
  · intro c c' l l' y y' hc hc' hG hG' hl hl' he
    by_cases h1 : c = b <;> by_cases h2 : c' = b
    · rw [h1, h2]
    · subst h1
      rw [hout h2] at hc'
      have := hnew l hc; have := h.rg.lt _ _ hc'; omega
    · subst h2
      rw [hout h1] at hc
      have := hnew l' hc'; have := h.rg.lt _ _ hc; omega
    · rw [hout h1] at hc; rw [hout h2] at hc'
      exact h.rg.inj c c' l l' y y' hc hc' hG hG' hl hl' he
  · intro i hi hnd c hc1 hc2
    have hne : i ≠ j := fun z => hnd (.inl z)
    have hc := h.un i hi (fun z => hnd (.inr z)) c hc1 hc2
    rw [hout ?_]; exact hc
    rintro rfl
    rcases Nat.lt_trichotomy i j with z | z | z
    · have := g.next hnx (show i + 1 ≤ j by omega) (by omega); omega
    · exact hne z
    · have := g.next hnx (show j + 1 ≤ i by omega) (by omega); omega
  · rw [hout (by omega)]; exact h.out c hc
  · intro c l y hc hG hl hlt
    by_cases hcb : c = b
    · subst hcb
      have := hnew l hc; have := h.gz; omega
    · rw [hout hcb] at hc
      exact h.back c l y hc hG hl hlt
end
end Go.Ev
