/- A drawn region, whatever order is drawn. -/
import Derived.Test.YtcbhnjlbolafpabGreatDoorEvZH
import Derived.Orders
set_option linter.unusedSimpArgs false
set_option linter.unusedVariables false
namespace Go.Ev
section
variable {P : Program} {r : R} {ro : Option Nat} {opsA : Array Oper} {A : Nat → Act} {S : Nat → St} {ld : List Ld} {cr : List Nat}

def und (listed : Array Bool) : Nat → Nat
  | 0 => 0
  | m + 1 => (if listed.getD m true = false then 1 else 0) + und listed m
theorem und_le (listed : Array Bool) : ∀ m, und listed m ≤ m
  | 0 => Nat.le_refl _
  | m + 1 => by have := und_le listed m; unfold und; split <;> omega
theorem und_set {listed : Array Bool} {i : Nat} (hi : listed.getD i true = false) : ∀ {m : Nat}, (i < m → und (listed.setIfInBounds i true) m + 1 = und listed m) ∧ (m ≤ i → und (listed.setIfInBounds i true) m = und listed m)
  | 0 => ⟨fun h => by omega, fun _ => rfl⟩
  | m + 1 => by
    obtain ⟨h1, h2⟩ := und_set hi (m := m)
    have hlt : i < listed.size := by
      rcases Nat.lt_or_ge i listed.size with h' | h'
      · exact h'
      · simp [Array.getElem?_eq_none h'] at hi
    constructor
    · intro h
      unfold und
      by_cases e : m = i
      · subst e
        have e1 : (listed.setIfInBounds m true).getD m true = true := by simp [hlt]
        rw [e1, hi, h2 (Nat.le_refl _)]; simp; omega
      · rw [getD_set_ne true (fun z => e z.symm)]
        have := h1 (by omega); omega
    · intro h
      unfold und
      rw [getD_set_ne true (by omega), h2 (by omega)]
theorem und_zero {listed : Array Bool} : ∀ {m : Nat}, und listed m = 0 → ∀ i, i < m → listed.getD i true = true
  | 0, _, i, h => by omega
  | m + 1, h0, i, h => by
    unfold und at h0
    split at h0
    · omega
    · rename_i hm
      by_cases e : i = m
      · subst e; simpa using hm
      · have h1 : und listed m = 0 := by omega
        exact und_zero h1 i (by omega)

def DL (listed : Array Bool) (n : Nat) (i : Nat) : Prop := i < n ∧ listed.getD i true = true

theorem plus_dl {listed : Array Bool} {n j : Nat} (hj : j < n) (hs : listed.size = n) : Plus (DL listed n) j = DL (listed.setIfInBounds j true) n := by
  funext i
  apply propext
  unfold Plus DL
  by_cases e : i = j
  · subst e
    simp [hs, hj]
  · rw [getD_set_ne true (fun z => e z.symm)]
    constructor
    · rintro (h | h)
      · exact absurd h e
      · exact h
    · exact .inr

theorem getD_both {listed : Array Bool} {i : Nat} (h : i < listed.size) (d d' : Bool) : listed.getD i d = listed.getD i d' := by
  simp [h]

/-- a region of which the rows of another one are the first ones -/
structure Pfx (opsA opsB : Array Oper) : Prop where
  le : opsA.size ≤ opsB.size
  row : ∀ (j : Nat) (o : Oper), opsA[j]? = some o → opsB[j]? = some o ∧ ∀ a, wantedA opsB.toList a o.guard = wantedA opsA.toList a o.guard
  down : ∀ (j : Nat) (o : Oper), opsB[j]? = some o → ∀ e ∈ o.after.toList, Region.binds .any e = true → e.on < j
  all : opsA.size < opsB.size → ∀ i, i < opsA.size → bit (bfL opsB.toList) opsA.size i = true
  beh : ∀ j, opsA.size < j → j < opsB.size → bit (bfL opsB.toList) j opsA.size = true

theorem lin_sound {opsB : Array Oper} (hB : Pfx opsA opsB) (hr : Sound P r) (hnx : NxR r) (g : Reg P r ro opsA.toList A S ld cr) (hs : (A 0).size ≤ TN) {φ0 : Phi} {w0 : World} {b : Frame} {X : Cx} (hk : b.kind = X.kind) (k : List Item) : ∀ (fuel t : Nat) (listed : Array Bool) {p : Nat} {φ : Phi} {w : World} {a : Act} {ca : Go.Act} {u : List PanicEntry},
    listed.size = opsB.size → und listed opsB.size ≤ fuel → Closed opsB.toList (DL listed opsB.size) → (∀ i, opsA.size ≤ i → i < opsB.size → listed.getD i true = false) → Inv opsA.toList A S cr φ0 w0 (DL listed opsA.size) p φ w a ca → RRc φ a.rc X u → Ro φ ro b.roundOf →
    ∃ D p' φ' w' a' ca' u' rest, (∀ i, i < opsA.size → D i) ∧ Inv opsA.toList A S cr φ0 w0 D p' φ' w' a' ca' ∧ RRc φ' a'.rc X u' ∧ Ro φ' ro b.roundOf ∧
      ((opsA.size = opsB.size ∧ rest = []) ∨ (opsA.size < opsB.size ∧ ∃ rest', rest = opsA.size :: rest')) ∧
      Steps P (lone (b.atR ca (.inRegion opsB (Region.linearise.go .any opsB fuel t listed []) :: k)) (X.list u) w) (lone (b.atR ca' (.inRegion opsB rest :: k)) (X.list u') w')
  | 0, t, listed, p, φ, w, a, ca, u, hsz, hu, hcB, hno, h, hrc, hro => by
    have hall := und_zero (listed := listed) (m := opsB.size) (by omega)
    have he : opsA.size = opsB.size := by
      rcases Nat.lt_or_ge opsA.size opsB.size with z | z
      · have h1 := hno opsA.size (Nat.le_refl _) z
        rw [hall _ z] at h1; cases h1
      · have := hB.le; omega
    exact ⟨_, p, φ, w, a, ca, u, _, fun i hi => ⟨hi, hall i (by omega)⟩, h, hrc, hro, .inl ⟨he, rfl⟩, .refl _ _⟩
  | fuel + 1, t, listed, p, φ, w, a, ca, u, hsz, hu, hcB, hno, h, hrc, hro => by
    have hle := hB.le
    simp only [Region.linearise.go]
    change ∃ D p' φ' w' a' ca' u' rest, (∀ i, i < opsA.size → D i) ∧ Inv opsA.toList A S cr φ0 w0 D p' φ' w' a' ca' ∧ RRc φ' a'.rc X u' ∧ Ro φ' ro b.roundOf ∧
      ((opsA.size = opsB.size ∧ rest = []) ∨ (opsA.size < opsB.size ∧ ∃ rest', rest = opsA.size :: rest')) ∧
      Steps P (lone (b.atR ca (.inRegion opsB (match (Region.ready .any opsB listed)[t % (Region.ready .any opsB listed).length]? with
      | some i => Region.linearise.go .any opsB fuel (t / (Region.ready .any opsB listed).length) (listed.setIfInBounds i true) [i]
      | none => [].reverse) :: k)) (X.list u) w) (lone (b.atR ca' (.inRegion opsB rest :: k)) (X.list u') w')
    cases hi : (Region.ready .any opsB listed)[t % (Region.ready .any opsB listed).length]? with
    | none =>
      have hnil : Region.ready .any opsB listed = [] := by
        cases hr : Region.ready .any opsB listed with
        | nil => rfl
        | cons x xs =>
          rw [hr] at hi
          have hlt : t % (x :: xs).length < (x :: xs).length := Nat.mod_lt _ (by simp)
          simp at hi
          simp at hlt
          omega
      have all : ∀ i, i < opsB.size → listed.getD i true = true := by
        intro i
        induction i using Nat.strongRecOn with
        | _ i ih =>
          intro hin
          cases hl : listed.getD i true with
          | true => rfl
          | false =>
            have ho : opsB[i]? = some opsB[i] := by simp [hin]
            have : i ∈ Region.ready .any opsB listed := by
              rw [mem_ready]
              refine ⟨hl, _, ho, fun e he hb => ?_⟩
              have hlt := hB.down i opsB[i] ho e (by simpa using he) hb
              rw [getD_both (by omega) false true]
              exact ih e.on hlt (by omega)
            rw [hnil] at this; cases this
      have he : opsA.size = opsB.size := by
        rcases Nat.lt_or_ge opsA.size opsB.size with z | z
        · have h1 := hno opsA.size (Nat.le_refl _) z
          rw [all _ z] at h1; cases h1
        · omega
      exact ⟨_, p, φ, w, a, ca, u, _, fun i hin => ⟨hin, all i (by omega)⟩, h, hrc, hro, .inl ⟨he, rfl⟩, .refl _ _⟩
    | some j =>
      simp only []
      rw [linearise_go_acc, List.reverse_singleton, List.singleton_append]
      obtain ⟨hjl, o, ho, hall⟩ := mem_ready.1 (List.mem_of_getElem? hi)
      have hjn : j < opsB.size := (Array.getElem?_eq_some_iff.1 ho).1
      have hclB : Closed opsB.toList (Plus (DL listed opsB.size) j) := by
        intro i o' ho' hP e he hb
        rcases hP with rfl | hP
        · rw [Array.getElem?_toList, ho] at ho'
          cases ho'
          have hl := hall e (by simpa using he) hb
          have hlt : e.on < listed.size := by
            rcases Nat.lt_or_ge e.on listed.size with z | z
            · exact z
            · simp [Array.getElem?_eq_none z] at hl
          exact .inr ⟨by omega, by rw [getD_both hlt true false]; exact hl⟩
        · exact .inr (hcB i o' ho' hP e he hb)
      by_cases hjA : j < opsA.size
      · have hnd : ¬ DL listed opsA.size j := fun e => by rw [e.2] at hjl; cases hjl
        have hcl : Closed opsA.toList (Plus (DL listed opsA.size) j) := by
          intro i o' ho' hP e he hb
          have hiA : i < opsA.size := by
            have := (List.getElem?_eq_some_iff.1 ho').1
            simpa using this
          have hoB := (hB.row i o' (by simpa using ho')).1
          have hlt := hB.down i o' hoB e he hb
          rcases hclB i o' (by simpa using hoB) (hP.imp id fun z => ⟨by omega, z.2⟩) e he hb with z | z
          · exact .inl z
          · exact .inr ⟨by omega, z.2⟩
        obtain ⟨p1, φ1, w1, a1, ca1, u1, c1, c2, c3, c4⟩ := row_step hr hnx g hs h hB.row hjA hnd hcl hrc hk hro (Region.linearise.go .any opsB fuel (t / (Region.ready .any opsB listed).length) (listed.setIfInBounds j true) []) k
        have e1 : Plus (DL listed opsA.size) j = DL (listed.setIfInBounds j true) opsA.size := by
          funext i
          apply propext
          unfold Plus DL
          by_cases e : i = j
          · subst e
            simp [hsz, hjn, hjA]
          · rw [getD_set_ne true (fun z => e z.symm)]
            constructor
            · rintro (h | h)
              · exact absurd h e
              · exact h
            · exact .inr
        rw [e1] at c1
        rw [plus_dl hjn hsz] at hclB
        have hu' := (und_set hjl (m := opsB.size)).1 hjn
        obtain ⟨D, p2, φ2, w2, a2, ca2, u2, rest, d1, d2, d3, d4, d5, d6⟩ := lin_sound hB hr hnx g hs hk k fuel (t / (Region.ready .any opsB listed).length) (listed.setIfInBounds j true) (by simpa using hsz) (by omega) hclB
          (fun i h1 h2 => by rw [getD_set_ne true (by omega)]; exact hno i h1 h2) c1 c2 c3
        exact ⟨D, p2, φ2, w2, a2, ca2, u2, rest, d1, d2, d3, d4, d5, c4.trans d6⟩
      · have hlt : opsA.size < opsB.size := by omega
        have hn := hno opsA.size (Nat.le_refl _) hlt
        have hj : j = opsA.size := by
          rcases Nat.lt_or_ge opsA.size j with z | z
          · rcases bit_closed hclB _ _ (hB.beh j z hjn) (.inl rfl) with e | e
            · omega
            · have e := e.2; rw [hn] at e; cases e
          · omega
        subst hj
        refine ⟨_, p, φ, w, a, ca, u, _, fun i hi => ?_, h, hrc, hro, .inr ⟨hlt, _, rfl⟩, .refl _ _⟩
        rcases bit_closed hclB _ _ (hB.all hlt i hi) (.inl rfl) with e | e
        · omega
        · exact ⟨hi, e.2⟩

theorem Last.unique {ops : List Oper} {D : Nat → Prop} {t : Nat} {v v' : V} (h : Last ops A D t v) (h' : Last ops A D t v') : v = v' := by
  rcases h with ⟨i, o, h1, h2, h3, h4, h5⟩ | ⟨h1, h2⟩ <;> rcases h' with ⟨i', o', k1, k2, k3, k4, k5⟩ | ⟨k1, k2⟩
  · have : i = i' := by
      rcases Nat.lt_trichotomy i i' with z | z | z
      · exact absurd k3 (h4 i' o' k1 z k2)
      · exact z
      · exact absurd h3 (k4 i o h1 z h2)
    subst this
    rw [h5, k5]
  · exact absurd h3 (k1 i o h1 h2)
  · exact absurd k3 (h1 i' o' k1 k2)
  · rw [h2, k2]

/-- to the row that is next behind the first ones, or the end -/
theorem draw_head (hM : P.follows .mixedOrders = true) {r : R} (hr : Sound P r) (hnx : NxR r) {ro : Option Nat} {opsA opsB : Array Oper} (hB : Pfx opsA opsB) {id : Nat} {a : Act} {s : St} {q : Ex × Act × St}
    (hx : drawn P opsA.toList a.size (bfL opsA.toList) (drawF P r ro opsA.toList opsA.toList 0 [] [] a s) = some q) {φ : Phi} {w : World} {b : Frame} {ca : Go.Act} (k : List Item) {X : Cx} {u : List PanicEntry}
    (hp : Pre φ s w ro a b ca X u) (hf : Fresh φ s.next q.2.2.next) : q.1 = .norm ∧ ∃ φ' w' ca' u' rest, Pre φ' q.2.2 w' ro q.2.1 b ca' X u' ∧ Ext φ s w φ' q.2.2 w' ∧
      ((opsA.size = opsB.size ∧ rest = []) ∨ (opsA.size < opsB.size ∧ ∃ rest', rest = opsA.size :: rest')) ∧
      Steps P (lone (b.atR ca (.code (.region id opsB true) :: k)) (X.list u) w) (lone (b.atR ca' (.inRegion opsB rest :: k)) (X.list u') w') := by
  unfold drawn at hx
  obtain ⟨⟨a', s', sn, ld⟩, hd, hx⟩ := Option.bind_some'.1 hx
  rw [cond_some, Bool.and_eq_true, Bool.and_eq_true] at hx
  obtain ⟨⟨⟨hok, hch⟩, hld⟩, hx⟩ := hx
  cases hx
  simp only at hf hch hld
  obtain ⟨A, S, cr, rfl, rfl, rfl, rfl, g⟩ := reg_of hd hok hch hld
  have hs : (A 0).size ≤ TN := hp.ha.t.lt
  let w1 : World := { w with drawn := w.drawn + 1 }
  have hw1 : w1.heap = w.heap := rfl
  have hD0 : ∀ n, DL (Array.replicate opsB.size false) n = fun i => i < n ∧ opsB.size ≤ i := by
    intro n
    funext i; apply propext
    unfold DL
    constructor
    · rintro ⟨h1, h2⟩
      refine ⟨h1, ?_⟩
      rcases Nat.lt_or_ge i opsB.size with z | z
      · simp [z] at h2
      · exact z
    · rintro ⟨h1, h2⟩
      exact ⟨h1, by simp [Nat.not_lt.2 h2]⟩
  have hle := hB.le
  have hDA : DL (Array.replicate opsB.size false) opsA.size = fun _ => False := by
    rw [hD0]; funext i; apply propext; constructor
    · intro h; omega
    · exact False.elim
  have hDB : DL (Array.replicate opsB.size false) opsB.size = fun _ => False := by
    rw [hD0]; funext i; apply propext; constructor
    · intro h; omega
    · exact False.elim
  have hrh := hp.hh.world hw1
  have n0 : ∀ j, j ≤ opsA.toList.length → (S 0).next ≤ (S j).next := fun j hj => g.next hnx (Nat.zero_le j) hj
  have n1 : ∀ j, j ≤ opsA.toList.length → (S j).next ≤ (S opsA.toList.length).next := fun j hj => g.next hnx hj (Nat.le_refl _)
  have hG0 : ∀ {b l x}, φ b = some l → G opsA.toList S cr 0 b x → (S 0).get b = some x := by
    intro b l x hb hG
    rcases hG with ⟨_, h⟩ | ⟨h1, _, j, hj, _, hn⟩
    · exact h
    · obtain ⟨e1, e2, _, _⟩ := St.new_spec hn
      have := n1 (j + 1) (by omega)
      rw [hf b h1 (by omega)] at hb; cases hb
  have hinv : Inv opsA.toList A S cr φ w1 (DL (Array.replicate opsB.size false) opsA.size) 0 φ w1 (A 0) ca := by
    rw [hDA]
    refine ⟨fun _ _ _ h => h.elim, fun _ h => h.elim, Nat.zero_le _, fun c _ => ⟨fun h => h.elim, fun h => by omega⟩, ⟨fun b l x h1 h2 => hrh.blk b l x h1 (hG0 h1 h2), fun b b' l l' x x' h1 h2 h3 h4 => hrh.inj b b' l l' x x' h1 h2 (hG0 h1 h3) (hG0 h2 h4), hrh.lt⟩,
      fun j hj _ b h1 h2 => hf b (Nat.le_trans (n0 j (by omega)) h1) (Nat.lt_of_lt_of_le h2 (n1 (j + 1) (by omega))), hp.hh.wf, fun j x b hj _ _ hn hb => ?_, hp.ha, rfl, fun t => .inr ⟨fun _ _ _ h => h.elim, rfl⟩, rfl, rfl, fun _ _ h => h,
      fun _ _ => rfl, fun _ _ _ => rfl, Nat.le_refl _, fun _ _ _ => rfl, fun b l x h1 h2 h3 _ => ⟨b, l, x, h1, hG0 h1 h2, h3, rfl⟩, Same.refl _⟩
    obtain ⟨e1, e2, _, _⟩ := St.new_spec hn
    have := n0 j (by omega); omega
  obtain ⟨D, p, φ', w', a', ca', u', rest, d1, d2, d3, d4, d5, d6⟩ := lin_sound hB hr hnx g hs (b := b) (X := X) hp.hk k opsB.size (w.tape w.drawn (.order b.fn id)) (Array.replicate opsB.size false) (by simp) (und_le _ _)
    (by rw [hDB]; exact fun _ _ _ h => h.elim) (fun i _ h2 => by simp [h2]) hinv hp.hrc hp.hro
  have dn := d2.lift g hnx d2.pn (Nat.le_refl _) (fun j h1 h2 hc => by
    have := (d2.ch j hc).1 (d1 j (by simpa using h2)); omega)
  have hget : ∀ t, a'.get t = (A opsA.toList.length).get t := fun t => by
    refine (dn.la t).unique ?_
    have hDD : D = (· < opsA.toList.length) := by
      funext i; apply propext
      exact ⟨fun h => dn.dn i h, fun h => d1 i (by simpa using h)⟩
    rw [hDD]
    exact g.last_row hs t (Nat.le_refl _)
  have hsz := g.size (j := opsA.toList.length) (Nat.le_refl _)
  refine ⟨rfl, φ', w', ca', u', rest, ⟨dn.rh, ⟨⟨by rw [dn.ra.t.size, dn.sz, hsz], by rw [hsz]; exact hs, fun i => ?_⟩, by rw [← dn.df]; exact dn.ra.d⟩, by rw [← dn.rc]; exact d3, hp.hk, d4⟩, ?_, d5, ?_⟩
  · have := dn.ra.t.slot i
    have e : (T.get TD a'.tmps i).getD undef = (T.get TD (A opsA.toList.length).tmps i).getD undef := hget i
    rw [← e]; exact this
  · refine (Ext.world hw1).trans ⟨dn.le, dn.out, n0 _ (Nat.le_refl _), dn.abs, dn.gz, dn.frame, fun b l x h1 h2 h3 h4 => dn.back b l x h1 ?_ h3 h4, dn.sm⟩
    rcases Nat.lt_or_ge b (S opsA.toList.length).next with y | y
    · exact .inl ⟨y, h2⟩
    · rw [dn.wf b y] at h2; cases h2
  · have hst := stepR_region_draw (P := P) (b := b) (a := ca) (k := k) (cs := X.list u) (w := w) (ops := opsB) (id := id)
    simp only [Region.schedule, hM, Bool.true_or, if_true] at hst
    exact Steps.head hst d6

theorem allBits_spec {bf : List Nat} {i : Nat} : ∀ {n : Nat}, allBits bf i n = true → ∀ j, j < n → bit bf i j = true
  | 0, _, j, h => by omega
  | n + 1, h, j, hj => by
    rw [allBits, Bool.and_eq_true] at h
    by_cases e : j = n
    · subst e; exact h.1
    · exact allBits_spec h.2 j (by omega)
theorem allBehind_spec {bf : List Nat} {i : Nat} : ∀ {l : List Oper} {n : Nat}, allBehind bf i n l = true → ∀ j, n ≤ j → j < n + l.length → bit bf j i = true
  | [], n, _, j, h1, h2 => by simp at h2; omega
  | x :: l, n, h, j, h1, h2 => by
    rw [allBehind, Bool.and_eq_true] at h
    by_cases e : j = n
    · subst e; exact h.1
    · exact allBehind_spec h.2 j (by simp; omega) (by simp at h2 ⊢; omega)
theorem guardsLt_spec : ∀ {l : List Oper} {n : Nat}, guardsLt n l = true → ∀ j o, l[j]? = some o → guardLt (n + j) o.guard = true
  | [], n, _, j, o, ho => by simp at ho
  | x :: l, n, h, j, o, ho => by
    rw [guardsLt, Bool.and_eq_true] at h
    cases j with
    | zero => simp at ho; subst ho; simpa using h.1
    | succ j =>
      have := guardsLt_spec h.2 j o (by simpa using ho)
      rw [show n + (j + 1) = Nat.succ n + j by simp only [Nat.succ_eq_add_one]; omega]; exact this

theorem wantedA_take {all : List Oper} {i j : Nat} (hj : j ≤ i) {gd : Option (Nat × Bool)} (h : guardLt j gd = true) (a : Act) : wantedA all a gd = wantedA (all.take i) a gd := by
  unfold wantedA
  cases gd with
  | none => rfl
  | some p =>
    obtain ⟨g, w⟩ := p
    have hg : g < j := by simpa [guardLt, Nat.blt_eq] using h
    have : yieldedA all a g = yieldedA (all.take i) a g := by
      unfold yieldedA
      rw [List.head?_drop, List.head?_drop, List.getElem?_take, if_pos (by omega)]
    simp only [this]

theorem draw_sound (hM : P.follows .mixedOrders = true) {r : R} (hr : Sound P r) (hnx : NxR r) : DrawS P r := by
  intro ro id a s x ops hx φ w b ca k X u hp hf
  unfold drawnF at hx
  split at hx
  · rename_i q hq
    cases hx
    have hx := hq
    have hB : Pfx ops ops := by
      have hd : downL 0 ops.toList = true := by
        unfold drawn at hx
        obtain ⟨q, _, hx⟩ := Option.bind_some'.1 hx
        rw [cond_some, Bool.and_eq_true, Bool.and_eq_true] at hx
        have := hx.1.1.1
        simp only [drawOk, Bool.and_eq_true] at this
        exact this.1.1
      refine ⟨Nat.le_refl _, fun j o ho => ⟨ho, fun _ => rfl⟩, fun j o ho e he hb => ?_, fun h => absurd h (Nat.lt_irrefl _), fun j h1 h2 => by omega⟩
      have := downL_spec hd j o (by simpa using ho) e he hb
      omega
    obtain ⟨h0, φ', w', ca', u', rest, h1, h2, h3, h4⟩ := draw_head hM hr hnx hB (id := id) hx k hp hf
    have hrest : rest = [] := by
      rcases h3 with ⟨_, e⟩ | ⟨e, _⟩
      · exact e
      · omega
    subst hrest
    obtain ⟨xe, xa, xs⟩ := x
    simp only at h0; subst h0
    exact ⟨φ', w', ca', u', h1, h2, h4.trans (.one stepR_region_end)⟩
  · obtain ⟨i, hi, hx⟩ := Option.bind_some'.1 hx
    unfold panGo at hx
    obtain ⟨q, hq, hx⟩ := Option.bind_some'.1 hx
    unfold panTail at hx
    rw [cond_some] at hx
    obtain ⟨hok, hx⟩ := hx
    obtain ⟨o, ho, hx⟩ := Option.bind_some'.1 hx
    obtain ⟨q2, hq2, hx⟩ := Option.bind_some'.1 hx
    obtain ⟨ch, pa, ps, e1, e2⟩ := onlyPan_some hx
    subst e1; subst e2
    simp only [panOk, Bool.and_eq_true] at hok
    obtain ⟨⟨⟨o1, o2⟩, o3⟩, o4⟩ := hok
    have hio : ops[i]? = some o := by
      rw [List.head?_drop] at ho
      simpa using ho
    have hin : i < ops.size := (Array.getElem?_eq_some_iff.1 hio).1
    let opsA : Array Oper := ⟨ops.toList.take i⟩
    have hszA : opsA.size = i := by simp [opsA]; omega
    have hB : Pfx opsA ops := by
      refine ⟨by omega, fun j o' ho' => ?_, fun j o' ho' e he hb => ?_, fun _ j hj => ?_, fun j h1 h2 => ?_⟩
      · have hj : j < opsA.size := (Array.getElem?_eq_some_iff.1 ho').1
        have ho2 : ops[j]? = some o' := by
          have : (ops.toList.take i)[j]? = some o' := by simpa [opsA] using ho'
          rw [List.getElem?_take, if_pos (by omega)] at this
          simpa using this
        refine ⟨ho2, fun a => ?_⟩
        have hg := guardsLt_spec o4 j o' (by simpa using ho2)
        rw [Nat.zero_add] at hg
        exact wantedA_take (by omega) hg a
      · have := downL_spec o1 j o' (by simpa using ho') e he hb
        omega
      · rw [hszA]; exact allBits_spec o2 j (by omega)
      · rw [hszA]; refine allBehind_spec o3 j (by simp only [Nat.succ_eq_add_one]; omega) ?_
        simp; omega
    have hle : q.2.2.next ≤ ps.next := opF_nx hnx ro ops.toList o q.2.1 q.2.2 _ _ _ hq2
    obtain ⟨h0, φ', w', ca', u', rest, h1, h2, h3, h4⟩ := draw_head hM hr hnx hB (id := id) (a := a) (s := s) (q := q) hq k hp (hf.sub (Nat.le_refl _) hle)
    obtain ⟨rest', hrest⟩ : ∃ rest', rest = i :: rest' := by
      rcases h3 with ⟨e, _⟩ | ⟨_, rest', e⟩
      · omega
      · exact ⟨rest', by rw [← hszA]; exact e⟩
    subst hrest
    have := op_sound hr hnx (k := k) (rest := rest') h1 hio hq2 (hf.ext h2)
    exact Cc.of_steps h4 ((this.pass (fun _ _ => rfl) (by simp)).ext h2)
end
end Go.Ev
