/- append, copy, clear. -/
import Derived.Test.YtcbhnjlbolafpabGreatDoorEvM
set_option linter.unusedSimpArgs false
set_option linter.unusedVariables false
namespace Go.Ev
section
variable {P : Program}

theorem zeroCells_eq {φ : Phi} {z : List V} {us : List Value} (hz : RvL φ z us) (n : Nat) : ∃ r : List Value, Builtin.zeroCells ⟨us⟩ n = ⟨r⟩ ∧ RvL φ (repeatL z n) r ∧ r.length = n * us.length := by
  refine ⟨(List.range (n * us.length)).map fun i => (⟨us⟩ : Array Value)[i % us.length]!, ?_, repeat_rv hz n _ (by rw [hz.length]), by simp⟩
  apply Array.ext'
  simp [Builtin.zeroCells]

theorem nextcap_small {need cap bytes : Nat} (h : cap < need) (hn : need ≤ 1000000) (hb : bytes ≤ 1000000) : ¬ (Builtin.nextslicecap need cap * bytes > 2 ^ 48) := by
  have h1 := nextslicecap_le h
  have h2 : Builtin.nextslicecap need cap * bytes ≤ 2000000 * 1000000 := Nat.mul_le_mul (by omega) hb
  have h48 : (2 : Nat) ^ 48 = 281474976710656 := by rfl
  rw [h48]; omega
theorem need_small {need : Nat} (hn : need ≤ 1000000) : ¬ ((need : Int) > IntKind.i64.max) := by
  have hm : IntKind.i64.max = 9223372036854775807 := by rfl
  rw [hm]; omega

set_option maxHeartbeats 4000000 in
theorem append_run_no {w : World} {ts : Array TypeId} {ty t0 t1 e : TypeId} {size n : Nat} {i : TypeInfo} {uz : Value} {b : Value} {us : List Value} {d1 : TypeDesc}
    (ht0 : ts[0]? = some t0) (ht1 : ts[1]? = some t1) (hu0 : P.underlying t0 = some (.slice e)) (hu1 : P.underlying t1 = some d1) (hint : isInt (some d1) = false)
    (hn : szOf P e = some size) (hi : P.info? e = some i) (hz : ∀ w' : World, (zeroValue e).run P w' = .ok uz w') (hbytes : i.bytes ≤ 1000000)
    (hlen : (Builtin.lenOf b).run P w = .ok n w) (happ : ∀ w' : World, w'.heap = w.heap → (Builtin.firstCells size n b).run P w' = .ok ⟨us⟩ w')
    (base : Option Addr) (len cap : Nat) (hneed : len + n ≤ 1000000) :
      (len + n ≤ cap → (Builtin.append_ ts ty #[.slice base len cap, b]).run P w = (do
        if let some a := base then storeCells (a.add (len * size)) us
        pure (.slice base (len + n) cap) : Sem Value).run P w) ∧
      (cap < len + n → ∀ old : List Value, (∀ w' : World, w'.heap = w.heap → (Builtin.firstCells size len (.slice base len cap)).run P w' = .ok ⟨old⟩ w') →
        ∃ newCap w1, len + n ≤ newCap ∧ w1.heap = w.heap.push (.cells (⟨old⟩ ++ ⟨us⟩ ++ Builtin.zeroCells uz.cells (newCap - (len + n))) e (0, 0)) ∧ Same w w1 ∧
          (Builtin.append_ ts ty #[.slice base len cap, b]).run P w = .ok (.slice (some ⟨w.heap.size, 0, none⟩) (len + n) newCap) w1) := by
  have h0 : (#[Value.slice base len cap, b] : Array Value)[0]? = some (.slice base len cap) := rfl
  have h1 : (#[Value.slice base len cap, b] : Array Value)[1]? = some b := rfl
  refine ⟨fun hle => ?_, fun hlt old hold => ?_⟩
  · cases d1 <;> first
      | (simp [isInt] at hint; done)
      | (simp only [Builtin.append_, ht0, ht1, h0, h1, Sem.run_bind, run_underlying hu0, run_underlying hu1, Result.andThen_ok, run_sz hn, Sem.run_pure, Bool.false_eq_true, if_false, hlen, Bool.not_false, if_true, Sem.run_ite, if_pos hle, happ w rfl]
         cases base <;> rfl)
  · let q : Question := .appendCap (len + n) cap e
    let nc := q.cut (w.tape w.drawn q)
    have hnc : len + n ≤ nc := by simp [nc, q, Question.cut]
    let w1 : World := { w with drawn := w.drawn + 1 }
    have ho := hold w1 rfl
    have hu := happ w1 rfl
    refine ⟨nc, { w1 with heap := w1.heap.push (.cells (⟨old⟩ ++ ⟨us⟩ ++ Builtin.zeroCells uz.cells (nc - (len + n))) e (0, 0)) }, hnc, rfl, ⟨rfl, rfl, rfl⟩, ?_⟩
    have hnle : ¬ (len + n ≤ cap) := by omega
    have hov : ¬ (((len + n : Nat) : Int) > IntKind.i64.max ∧ (False ∨ i.bytes = 0)) := fun h => need_small hneed h.1
    have hns := nextcap_small (bytes := i.bytes) hlt hneed hbytes
    have hch : (choose q).run P w = .ok nc w1 := by simp [run_choose, q, Question.forced, nc, w1]
    cases d1 <;> first
      | (simp [isInt] at hint; done)
      | (simp only [Builtin.append_, ht0, ht1, h0, h1, Sem.run_bind, run_underlying hu0, run_underlying hu1, Result.andThen_ok, run_sz hn, Sem.run_pure, Bool.false_eq_true, if_false, hlen, Bool.not_false, if_true, Sem.run_ite, if_neg hnle, run_inf hi, if_neg hov, if_neg hns]
         simp only [show Question.appendCap (len + n) cap e = q from rfl, hch, Result.andThen_ok, run_inf hi, run_askRoom, ho, hu, hz, newRow, Sem.run_bind, run_newObj, Sem.run_pure]
         rfl)
end
end Go.Ev
