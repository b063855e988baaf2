/- Slices that are built, made, appended to, copied, cleared; ranging. -/
import Derived.Test.YtcbhnjlbolafpabGreatDoorEvL
set_option linter.unusedSimpArgs false
set_option linter.unusedVariables false
namespace Go.Ev
section
variable {P : Program}

theorem elemD_some {d : Option TypeDesc} {e : TypeId} (h : elemD d = some e) : d = some (.slice e) := by
  unfold elemD at h
  split at h
  · cases h; rfl
  · cases h
theorem zeroOf_run {φ : Phi} {t : TypeId} {z : List V} (h : zeroOf P t = some z) (w : World) : ∃ u, (zeroValue t).run P w = .ok u w ∧ RvL φ z u.cells.toList := by
  unfold zeroOf at h
  obtain ⟨v, hv, rfl⟩ := Option.map_some'.1 h
  obtain ⟨u, h1, h2⟩ := run_zero (φ := φ) hv w
  exact ⟨u, h1, cells_sound h2⟩

theorem repeatL_len (z : List V) : ∀ n, (repeatL z n).length = n * z.length
  | 0 => by simp [repeatL]
  | n + 1 => by simp [repeatL, repeatL_len z n, Nat.succ_mul, Nat.add_comm]
theorem repeatL_get (z : List V) (hz : 0 < z.length) : ∀ n i : Nat, i < n * z.length → (repeatL z n)[i]? = z[i % z.length]?
  | 0, i, h => by simp at h
  | n + 1, i, h => by
    rw [Nat.succ_mul] at h
    rw [repeatL]
    by_cases hi : i < z.length
    · rw [List.getElem?_append_left hi, Nat.mod_eq_of_lt hi]
    · rw [List.getElem?_append_right (by omega), repeatL_get z hz n (i - z.length) (by omega), show i % z.length = (i - z.length) % z.length from Nat.mod_eq_sub_mod (by omega)]
/-- a row of zeros, as the machine lays it -/
theorem repeat_rv {φ : Phi} {z : List V} {us : List Value} (hz : RvL φ z us) (n k : Nat) (hk : k = n * z.length) :
    RvL φ (repeatL z n) ((List.range k).map fun i => (⟨us⟩ : Array Value)[i % us.length]!) := by
  have hl := hz.length
  subst hk
  refine RvL.of_get (by simp [repeatL_len]) fun i v u hv hu => ?_
  have hi : i < n * z.length := by
    have := (List.getElem?_eq_some_iff.1 hv).1
    rw [repeatL_len] at this; exact this
  have hz0 : 0 < z.length := by
    rcases Nat.eq_zero_or_pos z.length with h | h
    · rw [h] at hi; simp at hi
    · exact h
  rw [repeatL_get z hz0 n i hi] at hv
  simp [hi] at hu
  obtain ⟨u', hu', hR⟩ := hz.get _ _ hv
  rw [hl] at hu'
  have hlt : i % us.length < us.length := Nat.mod_lt _ (by omega)
  have : (us[i % us.length]?).getD default = u := by rw [← hu]
  rw [hu'] at this
  simp at this
  subst this; exact hR

theorem rowLen {x : List V} {y : List Value} {φ : Phi} (h : RvL φ x y) : y.length = x.length := h.length.symm

theorem buildSlice_sound {φ : Phi} {s s' : St} {w : World} (hh : Rh φ s w) (hf : Fresh φ s.next s'.next) {t : TypeId} {len : Nat} {parts : List (Nat × V)} {ps : List (Nat × Value)} {r : V} (hp : RP φ parts ps)
    (h : buildSliceV P s t len parts = some (r, s')) : MS P φ s w (Instr.buildSlice t len ⟨ps⟩) r s' := by
  simp only [buildSliceV, Option.bind_some', cond_some, Bool.and_eq_true] at h
  obtain ⟨e, he, n, hn, z, hz, ⟨h1, h2⟩, cs, hcs, h⟩ := h
  obtain ⟨⟨b, s1⟩, hb, h⟩ := Option.map_some'.1 h
  cases h
  have hu := elemD_some he
  have hle : len * n ≤ 65536 := nat_ble_t h1
  have hzl := nat_beq_t h2
  obtain ⟨uz, hz1, hz2⟩ := zeroOf_run (φ := φ) hz w
  have hul : uz.cells.toList.length = n := by rw [rowLen hz2]; exact hzl
  have hrep := repeat_rv hz2 len (len * n) (by rw [hzl])
  obtain ⟨rs, g1, g2, g3⟩ := fill_sound hp hrep hcs
  obtain ⟨k1, k2⟩ := newRow_plain (e := e) hh hb hf g2
  refine ⟨_, _, .slice (some ⟨w.heap.size, 0, none⟩) len len, ?_, ?_, k1, k2⟩
  · simp only [Instr.buildSlice, Sem.run_bind, run_underlying hu, Result.andThen_ok, run_sz hn]
    rw [Sem.run_ite, if_neg (by omega : ¬ (len * n > 2 ^ 24))]
    by_cases h0 : len * n = 0
    · rw [if_pos h0]
      have hrow : ((Array.range (len * n)).map fun i => (#[] : Array Value)[i % (#[] : Array Value).size]!) = ⟨(List.range (len * n)).map fun i => (⟨uz.cells.toList⟩ : Array Value)[i % uz.cells.toList.length]!⟩ := by
        apply Array.ext'; simp [h0]
      have g1' : Instr.fill (fun i => some (i * n, n)) ((Array.range (len * n)).map fun i => (#[] : Array Value)[i % (#[] : Array Value).size]!) ps = some ⟨rs⟩ := by
        rw [hrow]; exact g1
      simp only [Sem.run_bind, Sem.run_pure, Result.andThen_ok, g1', newRow, run_newObj]
    · rw [if_neg h0]
      have hrow : ((Array.range (len * n)).map fun i => uz.cells[i % uz.cells.size]!) = ⟨(List.range (len * n)).map fun i => (⟨uz.cells.toList⟩ : Array Value)[i % uz.cells.toList.length]!⟩ := by
        apply Array.ext'; simp
      have g1' : Instr.fill (fun i => some (i * n, n)) ((Array.range (len * n)).map fun i => uz.cells[i % uz.cells.size]!) ps = some ⟨rs⟩ := by
        rw [hrow]; exact g1
      simp only [Sem.run_bind, Sem.run_pure, Result.andThen_ok, hz1, g1', newRow, run_newObj]
  · have := Rv.slice (φ := upd φ b ⟨w.heap.size, 0, 0⟩) b 0 len len false _ (upd_same _ _ _)
    simpa using this

theorem wrap_small (m : Nat) (hm : m ≤ 1000000) : IntKind.i64.wrap (Int.ofNat m) = (m : Int) := by
  show (let k := (m : Int) % ((2 : Int) ^ IntKind.i64.bits); if IntKind.i64.signed && decide (k ≥ (2 : Int) ^ (IntKind.i64.bits - 1)) then k - (2 : Int) ^ IntKind.i64.bits else k) = (m : Int)
  have h64 : ((2 : Int) ^ IntKind.i64.bits) = 18446744073709551616 := by rfl
  have h63 : ((2 : Int) ^ (IntKind.i64.bits - 1)) = 9223372036854775808 := by rfl
  rw [h64, h63]
  have h1 : (m : Int) % 18446744073709551616 = (m : Int) := by omega
  have h2 : decide ((m : Int) ≥ 9223372036854775808) = false := by rw [decide_eq_false_iff_not]; omega
  simp only [h1, h2, Bool.and_false, Bool.false_eq_true, if_false]

theorem makeSlice_sound {φ : Phi} {s s' : St} {w : World} (hh : Rh φ s w) (hf : Fresh φ s.next s'.next) {t : TypeId} {l c r : V} {lu cu : Value} (hl : Rv φ l lu) (hc : Rv φ c cu)
    (h : makeSliceV P s t l c = some (r, s')) : MS P φ s w (Instr.makeSlice t lu cu) r s' := by
  simp only [makeSliceV, Option.bind_some', cond_some, Bool.and_eq_true] at h
  obtain ⟨e, he, n, hn, z, hz, i, hi, ln, hln, cn, hcn, ⟨⟨⟨⟨h1, h2⟩, h3⟩, h4⟩, h5⟩, h⟩ := h
  obtain ⟨⟨b, s1⟩, hb, h⟩ := Option.map_some'.1 h
  cases h
  have hu := elemD_some he
  obtain ⟨k1, rfl⟩ := natOf_some hln
  obtain ⟨k2, rfl⟩ := natOf_some hcn
  cases hl; cases hc
  have e1 : ln ≤ cn := nat_ble_t h1
  have e2 : cn * n ≤ 65536 := nat_ble_t h2
  have e3 : cn * i.bytes ≤ 1000000 := nat_ble_t h3
  have e4 := nat_beq_t h4
  have e5 : cn ≤ 1000000 := nat_ble_t h5
  obtain ⟨uz, hz1, hz2⟩ := zeroOf_run (φ := φ) hz w
  have hrep := repeat_rv hz2 cn (cn * n) (by rw [e4])
  obtain ⟨g1, g2⟩ := newRow_plain (e := e) hh hb hf hrep
  have wrap : ∀ m : Nat, m ≤ 1000000 → IntKind.i64.wrap (Int.ofNat m) = (m : Int) := wrap_small
  refine ⟨_, _, .slice (some ⟨w.heap.size, 0, none⟩) ln cn, ?_, ?_, g1, g2⟩
  · have hinf : P.info? e = some i := hi
    have hbig : ∀ m : Nat, m ≤ cn → (decide ((m : Int) < 0) || decide ((i.bytes : Int) * (m : Int) > 2 ^ 48)) = false := by
      intro m hm
      have : i.bytes * m ≤ 1000000 := by
        rw [Nat.mul_comm]
        exact Nat.le_trans (Nat.mul_le_mul_right _ hm) e3
      have h2 : (i.bytes : Int) * (m : Int) ≤ 1000000 := by
        rw [← Int.natCast_mul]
        exact Int.ofNat_le.2 this
      simp only [Bool.or_eq_false_iff, decide_eq_false_iff_not]
      constructor
      · omega
      · have : (2 : Int) ^ 48 = 281474976710656 := by rfl
        rw [this]; omega
    simp only [Instr.makeSlice, Sem.run_bind, run_underlying hu, Result.andThen_ok, asInt, asIntOf, Sem.run_pure, run_inf hi, wrap _ e5, wrap ln (by omega)]
    have hcond : ¬ ((((decide ((cn : Int) < 0) || decide ((i.bytes : Int) * (cn : Int) > 2 ^ 48)) || decide ((ln : Int) < 0)) || decide ((ln : Int) > (cn : Int))) = true) := by
      rw [hbig cn (Nat.le_refl _)]
      simp only [Bool.false_or, Bool.or_eq_true, decide_eq_true_iff, not_or]
      omega
    simp only [Sem.run_ite]
    rw [if_neg hcond]
    simp only [Sem.run_bind, Sem.run_pure, Result.andThen_ok, run_askRoom, run_sz hn, Int.toNat_natCast]
    by_cases h0 : cn * n = 0
    · rw [if_pos h0]
      have hrow : ((Array.range (cn * n)).map fun i => (#[] : Array Value)[i % (#[] : Array Value).size]!) = ⟨(List.range (cn * n)).map fun i => (⟨uz.cells.toList⟩ : Array Value)[i % uz.cells.toList.length]!⟩ := by
        apply Array.ext'; simp [h0]
      simp only [Sem.run_bind, Sem.run_pure, Result.andThen_ok, newRow, run_newObj, hrow]
    · rw [if_neg h0]
      have hrow : ((Array.range (cn * n)).map fun i => uz.cells[i % uz.cells.size]!) = ⟨(List.range (cn * n)).map fun i => (⟨uz.cells.toList⟩ : Array Value)[i % uz.cells.toList.length]!⟩ := by
        apply Array.ext'; simp
      simp only [Sem.run_bind, Sem.run_pure, Result.andThen_ok, hz1, newRow, run_newObj, hrow]
  · have := Rv.slice (φ := upd φ b ⟨w.heap.size, 0, 0⟩) b 0 ln cn false _ (upd_same _ _ _)
    simpa using this

theorem range_sound {φ : Phi} {s s' : St} {w : World} (hh : Rh φ s w) (hf : Fresh φ s.next s'.next) {t : TypeId} {x r : V} {a : Value} (hx : Rv φ x a) (h : rangeV P s t x = some (r, s')) :
    MS P φ s w (Instr.range t a) r s' := by
  have fin : ∀ {blk : Blk} {b : Nat} {s1 : St} (o : Obj), s.new blk = some (b, s1) → (r, s') = ((.ptr b 0 : V), s1) → (Instr.range t a).run P w = .ok (.pointer (some ⟨w.heap.size, 0, none⟩)) { w with heap := w.heap.push o } →
      (∀ φ', PLe φ φ' → ∀ l : Loc, l.blk = w.heap.size → l.dl = 0 → Rb φ' { w with heap := w.heap.push o } l blk) → MS P φ s w (Instr.range t a) r s' := by
    intro blk b s1 o hn he hrun hb
    cases he
    have hnx := (St.new_spec hn).2.1
    have hle : PLe φ (upd φ b ⟨w.heap.size, 0, 0⟩) := upd_le (hf _ (by rw [(St.new_spec hn).1]; exact Nat.le_refl _) (by rw [(St.new_spec hn).1]; omega))
    obtain ⟨g1, g2⟩ := alloc_sound (sk := 0) hh hn hf rfl (hb _ hle _ rfl rfl)
    exact ⟨_, _, _, hrun, Rv.ptr b 0 _ (upd_same _ _ _), g1, g2⟩
  unfold rangeV at h
  split at h
  · rename_i z hu
    obtain ⟨⟨b, s1⟩, hb, h⟩ := Option.map_some'.1 h
    cases hx
    refine fin (.stringIter ⟨⟨z⟩⟩ 0) hb h.symm ?_ ?_
    · simp only [Instr.range, Sem.run_bind, run_underlying hu, Result.andThen_ok, Sem.run_pure, run_newObj]
    · intro φ' _ l hl hd
      exact ⟨z, by rw [hl]; simp, by simp, by simp, hd⟩
  · rename_i k e hu
    obtain ⟨⟨b, s1⟩, hb, h⟩ := Option.map_some'.1 h
    cases hx
    refine fin (.mapIter none 0 #[] 0) hb h.symm ?_ ?_
    · simp only [Instr.range, Sem.run_bind, run_underlying hu, Result.andThen_ok, Sem.run_pure, run_newObj]
    · intro φ' _ l hl hd
      exact ⟨none, 0, #[], 0, by rw [hl]; simp, rfl, hd, rfl⟩
  · rename_i k e m hu
    obtain ⟨y, hy, h⟩ := Option.bind_some'.1 h
    cases hx; rename_i L hL
    have hblk := hh.blk m L _ hL hy
    unfold rangeMap at h
    split at h
    · rename_i q
      obtain ⟨⟨b, s1⟩, hb, h⟩ := Option.map_some'.1 h
      obtain ⟨en, clk, h1, h2, h3⟩ := hblk
      refine fin (.mapIter (some L.blk) clk #[] clk) hb h.symm ?_ ?_
      · simp only [Instr.range, Sem.run_bind, run_underlying hu, Result.andThen_ok, getObj, Sem.run, h1, Sem.run_pure, run_newObj]
      · intro φ' hle l hl hd
        exact ⟨some L.blk, clk, #[], clk, by rw [hl]; simp, ⟨L, hle _ _ hL, rfl⟩, hd, h3.2, rfl, h3.2⟩
    · rw [cond_some] at h
      obtain ⟨hemp, h⟩ := h
      obtain ⟨⟨b, s1⟩, hb, h⟩ := Option.map_some'.1 h
      obtain ⟨en, clk, h1, h2, h3⟩ := hblk
      refine fin (.mapIter (some L.blk) clk #[] clk) hb h.symm ?_ ?_
      · simp only [Instr.range, Sem.run_bind, run_underlying hu, Result.andThen_ok, getObj, Sem.run, h1, Sem.run_pure, run_newObj]
      · intro φ' hle l hl hd
        exact ⟨some L.blk, clk, #[], clk, by rw [hl]; simp, ⟨L, hle _ _ hL, rfl⟩, hd, rfl⟩
    · cases h
  · cases h

theorem memN_mem {b : Nat} : ∀ {l : List Nat}, memN b l = decide (b ∈ l)
  | [] => rfl
  | c :: l => by
    unfold memN
    cases hb : Nat.beq b c with
    | true => have := Nat.eq_of_beq_eq_true hb; subst this; simp
    | false =>
      have : b ≠ c := fun e => by rw [e, Nat.beq_refl] at hb; cases hb
      simp only [cond_false]
      rw [memN_mem (l := l)]
      simp [this]
theorem iter_live {m : Option Nat} {x : Option (Nat × List Nat × Nat)} : (Blk.iter m x).live := trivial

/-- a map without entries -/
theorem empty_map {φ : Phi} {w : World} {l : Loc} {bo : Option (List Nat × Nat)} (h : Rb φ w l (.map [] bo)) : ∃ clk, w.heap[l.blk]? = some (.map #[] clk) := by
  obtain ⟨en, clk, h1, ⟨es', hp, hre⟩, _⟩ := h
  have : es' = [] := List.Perm.eq_nil hp
  subst this
  have := hre.length
  have e : en = #[] := by apply Array.ext'; simpa using (List.length_eq_zero_iff.1 this.symm)
  exact ⟨clk, by rw [← e]; exact h1⟩
/-- a map of one entry -/
theorem lone_map {φ : Phi} {w : World} {l : Loc} {e : V × V} {b clk : Nat} (h : Rb φ w l (.map [e] (some ([b], clk)))) : ∃ ce : MapEntry, w.heap[l.blk]? = some (.map #[ce] clk) ∧ Rv φ e.1 ce.key ∧ Rv φ e.2 ce.val ∧ ce.born = b := by
  obtain ⟨en, clk', h1, ⟨es', hp, hre⟩, h2, h3⟩ := h
  subst h3
  have : es' = [e] := List.perm_singleton.1 hp
  subst this
  obtain ⟨l⟩ := en
  cases hre with
  | cons _ ce _ m hr hl =>
    cases hl
    exact ⟨ce, h1, hr.1, hr.2, by simpa using h2⟩

theorem striter_live {l : List UInt8} {p : Nat} : (Blk.striter l p).live := trivial

theorem utf8_ascii (b : List UInt8) (pos : Nat) (c : UInt8) (rest : List UInt8) (h : b.drop pos = c :: rest) (hc : c.toNat < 128) : Utf8.decode ⟨⟨b⟩⟩ pos = (c.toNat, 1) := by
  have hlt : pos < b.length := by
    rcases Nat.lt_or_ge pos b.length with h' | h'
    · exact h'
    · rw [List.drop_of_length_le h'] at h; cases h
  have hget : (ByteArray.mk ⟨b⟩).get! (pos + 0) = c := by
    have h0 : b[pos]? = some c := by
      have : (b.drop pos)[0]? = some c := by rw [h]; rfl
      simpa using this
    show (⟨b⟩ : Array UInt8)[pos + 0]! = c
    rw [Nat.add_zero, Array.getElem!_eq_getD, Array.getD_eq_getD_getElem?]
    simp [h0]
  unfold Utf8.decode
  simp only [hget]
  rw [if_pos (by omega)]

theorem next_empty {w : World} {B m since last clk : Nat} {seen : Array Nat} {d : Nat} {k : Option Nat} {ty : TypeId} (h1 : w.heap[B]? = some (.mapIter (some m) since seen last)) (g1 : w.heap[m]? = some (.map #[] clk)) (hd : d = 0) :
    (Instr.next (.pointer (some ⟨B, d + 0, k⟩)) false ty).run P w = .ok (.tuple #[.bool false]) w := by
  subst hd
  simp only [Nat.add_zero, Instr.next, Sem.run_bind, getObj, Sem.run, h1, g1, Result.andThen_ok, Sem.run_pure, Sem.run_pure']
  have hf1 : ∀ p : MapEntry → Bool, Array.filter p (#[] : Array MapEntry) = #[] := fun p => by simp
  simp only [hf1]
  simp [run_choose, Question.forced]

theorem next_sound {φ : Phi} {s s' : St} {w : World} (hh : Rh φ s w) (hf : Fresh φ s.next s'.next) {x r : V} {a : Value} {isStr : Bool} {ty : TypeId} (hx : Rv φ x a) (h : nextV s x isStr = some (r, s')) :
    MS P φ s w (Instr.next a isStr ty) r s' := by
  simp only [nextV, Option.bind_some', cond_some] at h
  obtain ⟨p, hp, h0, blk, hb, h⟩ := h
  have := asPtr_some hp; subst this
  have e0 := nat_beq_t h0
  obtain ⟨b, o⟩ := p
  simp only at e0 hb h
  subst e0
  cases hx; rename_i L hL
  have hblk := hh.blk b L _ hL hb
  unfold nextIter at h
  split at h
  · rw [cond_none_some] at h
    obtain ⟨hs, h⟩ := h
    cases h; subst hs
    obtain ⟨mc, since, seen, last, h1, h2, hd, _⟩ := hblk
    subst h2
    refine MS.same hh ⟨.tuple #[.bool false], ?_, .tup _ _ (.cons _ _ _ _ (.bool false) .nil)⟩
    simp only [hd, Nat.add_zero, Instr.next, Sem.run_bind, getObj, Sem.run, h1, Result.andThen_ok, Sem.run_pure, Sem.run_pure']
  · rename_i m
    rw [cond_none_some] at h
    obtain ⟨hs, h⟩ := h
    subst hs
    obtain ⟨y, hy, h⟩ := Option.bind_some'.1 h
    obtain ⟨mc, since, seen, last, h1, ⟨L', hL', rfl⟩, hd, _⟩ := hblk
    have hb2 := hh.blk m L' _ hL' hy
    unfold nextBlind at h
    split at h
    · cases h
      obtain ⟨clk, g1⟩ := empty_map hb2
      refine MS.same hh ⟨.tuple #[.bool false], ?_, .tup _ _ (.cons _ _ _ _ (.bool false) .nil)⟩
      exact next_empty h1 g1 hd
    · cases h
  · rename_i m q
    obtain ⟨qa, qb, qc⟩ := q
    rw [cond_none_some] at h
    obtain ⟨hs, h⟩ := h
    subst hs
    obtain ⟨y, hy, h⟩ := Option.bind_some'.1 h
    obtain ⟨mc, since, seen, last, h1, ⟨L', hL', rfl⟩, hd, e1, e2, e3⟩ := hblk
    subst e1; subst e3
    have hb2 := hh.blk m L' _ hL' hy
    unfold nextKnown at h
    split at h
    · cases h
      obtain ⟨clk, g1⟩ := empty_map hb2
      refine MS.same hh ⟨.tuple #[.bool false], ?_, .tup _ _ (.cons _ _ _ _ (.bool false) .nil)⟩
      exact next_empty h1 g1 hd
    · rename_i e born clk
      obtain ⟨ce, g1, g2, g3, g4⟩ := lone_map hb2
      unfold nextLone at h
      rw [memN_mem] at h
      have hct : seen.contains ce.born = decide (born ∈ qb) := by rw [g4, ← e2]; simp
      by_cases hm : born ∈ qb
      · rw [decide_eq_true hm, cond_true, cond_some] at h
        obtain ⟨hlt, h⟩ := h
        have hlt : born < last := nat_blt_t hlt
        cases h
        rw [decide_eq_true hm] at hct
        refine MS.same hh ⟨.tuple #[.bool false], ?_, .tup _ _ (.cons _ _ _ _ (.bool false) .nil)⟩
        have hge : ¬ ce.born ≥ last := by omega
        simp only [hd, Nat.add_zero, Instr.next, Sem.run_bind, getObj, Sem.run, h1, g1, Result.andThen_ok, Sem.run_pure, Sem.run_pure']
        have hmem : ce.born ∈ seen := by simpa using hct
        simp [hge, hmem, run_choose, Question.forced]
      · rw [decide_eq_false hm, cond_false, cond_some, Bool.and_eq_true] at h
        obtain ⟨⟨hlt, hor⟩, h⟩ := h
        have hlt : born < since := nat_blt_t hlt
        cases h
        rw [decide_eq_false hm] at hct
        have hnm : ce.born ∉ seen := by simpa using hct
        obtain ⟨k1, k2, k3⟩ := setObj_heap (o := .mapIter (some L'.blk) since (seen.push ce.born) clk) h1
        obtain ⟨r1, r2⟩ := write_sound (x' := .iter (some m) (some (since, qb ++ [born], clk))) hh hL hb iter_live k1 k2
          ⟨some L'.blk, since, seen.push ce.born, clk, k3, ⟨L', hL', rfl⟩, hd, rfl, by rw [Array.toList_push, e2, g4], rfl⟩
        refine ⟨φ, _, .tuple #[.bool true, ce.key, ce.val], ?_, ?_, r1, r2⟩
        · have hcond : (!seen.isEmpty && decide (ce.born ≥ last)) = false := by
            rw [Bool.or_eq_true] at hor
            rcases hor with hor | hor
            · have : qb = [] := by simpa using hor
              subst this
              have : seen = #[] := by apply Array.ext'; simpa using e2
              subst this; rfl
            · have hor : born < last := nat_blt_t hor
              have : ¬ ce.born ≥ last := by omega
              simp [this]
          have hs1 : ce.born < since := by omega
          have hs2 : ¬ ce.born ≥ since := by omega
          simp only [hd, Nat.add_zero, Instr.next, Sem.run_bind, getObj, Sem.run, h1, g1, Result.andThen_ok, Sem.run_pure, Sem.run_pure']
          have hcond' : (!seen.isEmpty && !(#[ce] : Array MapEntry).isEmpty && (#[ce] : Array MapEntry).all (·.born ≥ last)) = false := by simpa using hcond
          rw [hcond']
          have hf1 : (#[ce] : Array MapEntry).filter (fun e => !seen.contains e.born) = #[ce] := by simp [hnm]
          have hf2 : (#[ce] : Array MapEntry).filter (fun e => e.born < since) = #[ce] := by simp [hs1]
          have hf3 : (#[ce] : Array MapEntry).filter (fun e => e.born ≥ since) = #[] := by simp [hs2]
          simp only [hf1, hf2, hf3]
          simp [run_choose, Question.forced, setObj, Sem.run, h1]
        · exact .tup _ _ (.cons _ _ _ _ (.bool true) (.cons _ _ _ _ g2 (.cons _ _ _ _ g3 .nil)))
    · cases h
  · rw [cond_some] at h
    obtain ⟨hs, h⟩ := h
    cases h; subst hs
    obtain ⟨full, h1, h2, h3, hd⟩ := hblk
    refine MS.same hh ⟨.tuple #[.bool false], ?_, .tup _ _ (.cons _ _ _ _ (.bool false) .nil)⟩
    rename_i pos
    have hge : ¬ pos < full.length := by
      intro hlt
      have := congrArg List.length h2
      simp at this; omega
    have hsz : (ByteArray.mk ⟨full⟩).size = full.length := rfl
    simp only [hd, Nat.add_zero, Instr.next, Sem.run_bind, getObj, Sem.run, h1, Result.andThen_ok, Sem.run_pure, Sem.run_pure', hsz]
    rw [Sem.run_ite, if_neg hge]; rfl
  · rename_i c l pos
    rw [cond_some] at h
    obtain ⟨hs, h⟩ := h
    simp only [Bool.and_eq_true] at hs
    obtain ⟨hs, hc⟩ := hs
    cases h; subst hs
    obtain ⟨full, h1, h2, h3, hd⟩ := hblk
    have hlt : pos < full.length := by
      have := congrArg List.length h2
      simp at this; omega
    have hdec := utf8_ascii full pos c l h2 (nat_blt_t hc)
    have hsz : (ByteArray.mk ⟨full⟩).size = full.length := rfl
    obtain ⟨g1, g2, g3⟩ := setObj_heap (o := .stringIter ⟨⟨full⟩⟩ (pos + 1)) h1
    obtain ⟨r1, r2⟩ := write_sound (x' := .striter l (Nat.succ pos)) hh hL hb striter_live g1 g2 (by
      refine ⟨full, g3, ?_, by show pos + 1 ≤ _; omega, hd⟩
      rw [show Nat.succ pos = pos + 1 from rfl, ← List.drop_drop, h2]; rfl)
    refine ⟨φ, _, .tuple #[.bool true, goInt pos, .int .i32 c.toNat], ?_, ?_, r1, r2⟩
    · simp only [hd, Nat.add_zero, Instr.next, Sem.run_bind, getObj, Sem.run, h1, Result.andThen_ok, Sem.run_pure, Sem.run_pure', hsz]
      rw [Sem.run_ite, if_pos hlt]
      simp only [hdec, Sem.run_bind, setObj, Sem.run, h1, Result.andThen_ok, Sem.run_pure, Sem.run_pure']
    · exact .tup _ _ (.cons _ _ _ _ (.bool true) (.cons _ _ _ _ (.int _ _) (.cons _ _ _ _ (.int _ _) .nil)))
  · cases h

theorem lastN_back : ∀ {l : List Nat} {b : Nat}, lastN l = some b → l.getLast? = some b
  | [], _, h => by cases h
  | x :: l, b, h => by
    unfold lastN at h
    split at h
    · cases h; rfl
    · rename_i y l
      have := lastN_back h
      simpa using this
theorem entry_sound {φ : Phi} {s : St} {w : World} (hh : Rh φ s w) {x r : V} {a : Value} (hx : Rv φ x a) (h : entryV s x = some r) :
    ∃ u, (Instr.entry a).run P w = .ok u w ∧ Rv φ r u := by
  simp only [entryV, Option.bind_some', cond_some] at h
  obtain ⟨p, hp, h0, blk, hb, h⟩ := h
  have := asPtr_some hp; subst this
  have e0 := nat_beq_t h0
  obtain ⟨b, o⟩ := p
  simp only at e0 hb h
  subst e0
  cases hx; rename_i L hL
  have hblk := hh.blk b L _ hL hb
  unfold entryIter at h
  split at h
  · rename_i m q
    obtain ⟨qa, qb, qc⟩ := q
    obtain ⟨y, hy, h⟩ := Option.bind_some'.1 h
    obtain ⟨mc, since, seen, last, h1, ⟨L', hL', rfl⟩, hd, e1, e2, e3⟩ := hblk
    subst e1; subst e3
    have hb2 := hh.blk m L' _ hL' hy
    unfold entryKnown at h
    split at h
    · rename_i e born clk
      obtain ⟨ce, g1, g2, g3, g4⟩ := lone_map hb2
      simp only [Option.bind_some', cond_some, Bool.and_eq_true] at h
      obtain ⟨c, hc, ⟨hcb, hcl⟩, h⟩ := h
      have := nat_beq_t hcb; subst this
      have hcl := nat_beq_t hcl
      cases h
      have hback : seen.back? = some c := by
        have := lastN_back hc
        rw [← e2] at this
        simpa [Array.getLast?_toList] using this
      have hcl : clk = last := hcl
      refine ⟨.tuple #[ce.key, ce.val], ?_, .tup _ _ (.cons _ _ _ _ g2 (.cons _ _ _ _ g3 .nil))⟩
      simp only [hd, Nat.add_zero, Instr.entry, Sem.run_bind, getObj, Sem.run, h1, g1, hback, Result.andThen_ok, Sem.run_pure, Sem.run_pure']
      simp [hcl, g4]
    · cases h
  · cases h
end
end Go.Ev
