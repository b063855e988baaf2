/- append, copy, clear: as the evaluator has them. -/
import Derived.Test.YtcbhnjlbolafpabGreatDoorEvO
set_option linter.unusedSimpArgs false
set_option linter.unusedVariables false
namespace Go.Ev
section
variable {P : Program}

theorem append_sound {φ : Phi} {s s' : St} {w : World} (hh : Rh φ s w) (hf : Fresh φ s.next s'.next) {ts : Array TypeId} {ty : TypeId} {x y r : V} {a b : Value} (hx : Rv φ x a) (hy : Rv φ y b)
    (h : appendV P s ts x y = some (r, s')) : MS P φ s w (Builtin.append_ ts ty #[a, b]) r s' := by
  simp only [appendV, Option.bind_some', cond_some, Bool.and_eq_true] at h
  obtain ⟨e, he, size, hn, i, hi, z, hz, q, hq, len, hlen, ⟨⟨⟨hsm, hzl⟩, h1⟩, hnl⟩, h⟩ := h
  obtain ⟨n, new⟩ := q
  simp only [small, Bool.and_eq_true] at hsm
  have hneed : len + n ≤ 1000000 := nat_ble_t hsm.1
  have hbytes : i.bytes ≤ 1000000 := nat_ble_t hsm.2
  have hzl' := nat_beq_t hzl
  have hnl' : new.length = n * size := nat_beq_t hnl
  have base := fun (bs : Option Addr) (ln cp : Nat) (hne : ln + n ≤ 1000000) => append_run (P := P) (ty := ty) hh hy he hn hi hz h1 hq hbytes hzl' bs ln cp hne
  cases x <;> simp only [appendTo] at h <;> try (cases h; done)
  case nils =>
    simp only [lenOfV, Option.some.injEq] at hlen; subst hlen
    cases hx
    obtain ⟨us, hus, g1, g2⟩ := base none 0 0 hneed
    cases hz0 : Nat.beq n 0 with
    | true =>
      have := nat_beq_t hz0; subst this
      rw [hz0] at h; simp only [cond_true, Option.some.injEq, Prod.mk.injEq] at h
      obtain ⟨rfl, rfl⟩ := h
      refine MS.same hh ⟨.slice none 0 0, ?_, .nils⟩
      rw [g1 (Nat.le_refl _)]; rfl
    | false =>
      rw [hz0] at h; simp only [cond_false] at h
      obtain ⟨⟨nb, s1⟩, hnb, h⟩ := Option.map_some'.1 h
      cases h
      have hpos : 0 < 0 + n := by have := nat_beq_f hz0; omega
      obtain ⟨nc, rest, w1, a1, a2, a3, a5, a4⟩ := g2 hpos [] (fun w' _ => by simp [Builtin.firstCells])
      obtain ⟨φ', k1, k2, k3⟩ := grown (need := n) (nc := nc) (rest := rest) (us := us) hh hnb hf hus (by omega) (by rw [a2, Nat.zero_add]) (by simpa using a3)
      refine ⟨φ', w1, _, a4, ?_, k2, k3⟩
      simpa using k1
  case slice b0 o ln cap sl =>
    simp only [lenOfV, Option.some.injEq] at hlen; subst hlen
    cases hx; rename_i L hL
    obtain ⟨us, hus, g1, g2⟩ := base (some ⟨L.blk, L.dl + o, none⟩) ln (cap + if sl = true then L.sk else 0) hneed
    cases hle : Nat.ble (Nat.add ln n) cap with
    | true =>
      have hle' : ln + n ≤ cap := nat_ble_t hle
      rw [hle] at h; simp only [cond_true] at h
      obtain ⟨s1, hs1, h⟩ := Option.map_some'.1 h
      cases h
      obtain ⟨w', r1, r2, r3, r4⟩ := write_cells (P := P) hh hL hus hs1
      refine ⟨φ, w', _, ?_, Rv.slice b0 o (ln + n) cap sl L hL, r2, r3⟩
      rw [g1 (by omega)]
      have r1' : (storeCells (Addr.add ⟨L.blk, L.dl + o, none⟩ (ln * size)) us).run P w = .ok () w' := by
        rw [addr_add, Nat.add_assoc]; exact r1
      simp only [Sem.run_bind, r1', Result.andThen_ok, Sem.run_pure]
    | false =>
      have hgt : ¬ (ln + n ≤ cap) := fun hh => by
        have : Nat.ble (Nat.add ln n) cap = true := by rw [Nat.ble_eq]; exact hh
        rw [hle] at this; cases this
      rw [hle] at h; simp only [cond_false, Option.bind_some'] at h
      obtain ⟨blk, hblk, h⟩ := h
      cases blk <;> simp only [growRow] at h <;> try (cases h; done)
      rename_i l fl esz
      simp only [cond_some, Option.bind_some'] at h
      obtain ⟨hc, old, hold, h⟩ := h
      obtain ⟨⟨nb, s1⟩, hnb, h⟩ := Option.map_some'.1 h
      cases h
      obtain ⟨ho1, ho2⟩ := takeN_spec hold
      obtain ⟨c, e', lo, hi', b1, b2, b3, b4, b5⟩ := hh.blk b0 L _ hL hblk
      obtain ⟨olds, o1, o2, o3⟩ := run_row (P := P) b1 b2 o hold
      have hfc : ∀ w' : World, w'.heap = w.heap → (Builtin.firstCells size ln (.slice (some ⟨L.blk, L.dl + o, none⟩) ln (cap + if sl = true then L.sk else 0))).run P w' = .ok ⟨olds⟩ w' := fun w' hw' => o1 w' hw'
      cases sl with
      | false =>
        simp only [Bool.false_eq_true, if_false, Nat.add_zero] at g1 g2 hfc ⊢
        simp only [cond_false] at hnb
        obtain ⟨nc, rest, w1, a1, a2, a3, a5, a4⟩ := g2 (by omega) olds hfc
        obtain ⟨φ', k1, k2, k3⟩ := grown (need := ln + n) hh hnb hf (o2.append hus) a1 a2 a3
        exact ⟨φ', w1, _, a4, k1, k2, k3⟩
      | true =>
        simp only [if_true] at g1 g2 hfc ⊢
        simp only [cond_true] at hnb
        simp only [Bool.not_true, Bool.false_or, Bool.and_eq_true] at hc
        have hc1 : o + cap * size = l.length := nat_beq_t hc.1
        have hc2 : esz = size := nat_beq_t hc.2
        by_cases hroom : ln + n ≤ cap + L.sk
        · -- in its place
          obtain ⟨w', r1, φ', hφ', k2, k3⟩ := taken (P := P) hh hL hblk hnb hf hus hold hnl' (by simp at ho2; have : ln * size ≤ cap * size ∨ True := .inr trivial; omega) cap hc1 hc2 hroom
          refine ⟨φ', w', .slice (some ⟨L.blk, L.dl + o, none⟩) (ln + n) (cap + L.sk), ?_, ?_, k2, k3⟩
          · rw [g1 hroom]
            have r1' : (storeCells (Addr.add ⟨L.blk, L.dl + o, none⟩ (ln * size)) us).run P w = .ok () w' := by
              rw [addr_add, Nat.add_assoc]; exact r1
            simp only [Sem.run_bind, r1', Result.andThen_ok, Sem.run_pure]
          · have := Rv.slice (φ := φ') nb 0 (ln + n) (ln + n) true _ hφ'
            simp only [if_true, Nat.add_zero] at this
            rw [show ln + n + (cap + L.sk - (ln + n)) = cap + L.sk by omega] at this
            exact this
        · obtain ⟨nc, rest, w1, a1, a2, a3, a5, a4⟩ := g2 (by omega) olds hfc
          obtain ⟨m1, m2⟩ := kill_sound hh _ hblk live_cells L hL
          obtain ⟨φ', k1, k2, k3⟩ := grown (need := ln + n) m1 hnb hf (o2.append hus) a1 a2 a3
          exact ⟨φ', w1, _, a4, k1, k2, m2.trans k3⟩
  case etail b0 o o' =>
    simp only [lenOfV, Option.some.injEq] at hlen; subst hlen
    cases hx; rename_i L hL
    obtain ⟨us, hus, g1, g2⟩ := base (some ⟨L.blk, L.dl + (if L.sk = 0 then o else o'), none⟩) 0 L.sk hneed
    cases hz0 : Nat.beq n 0 with
    | true =>
      have := nat_beq_t hz0; subst this
      rw [hz0] at h; simp only [cond_true, Option.some.injEq, Prod.mk.injEq] at h
      obtain ⟨rfl, rfl⟩ := h
      have hu0 : us = [] := List.length_eq_zero_iff.1 (by rw [← hus.length, hnl']; simp)
      subst hu0
      refine MS.same hh ⟨_, ?_, .etail b0 o o' L hL⟩
      rw [g1 (by omega)]
      simp [storeCells]
    | false =>
      have hpos : 0 < n := by have := nat_beq_f hz0; omega
      rw [hz0] at h; simp only [cond_false, Option.bind_some'] at h
      obtain ⟨blk, hblk, h⟩ := h
      cases blk <;> simp only [growTail] at h <;> try (cases h; done)
      rename_i l fl esz
      rw [cond_some] at h
      obtain ⟨hc, h⟩ := h
      obtain ⟨⟨nb, s1⟩, hnb, h⟩ := Option.map_some'.1 h
      cases h
      simp only [Bool.and_eq_true] at hc
      have hc1 : o' = l.length := nat_beq_t hc.1
      have hc2 : esz = size := nat_beq_t hc.2
      by_cases hroom : 0 + n ≤ L.sk
      · have hsk : ¬ L.sk = 0 := by omega
        obtain ⟨w', r1, φ', hφ', k2, k3⟩ := taken (P := P) (len := 0) (old := []) (o := o') hh hL hblk (by simpa using hnb) hf hus (by simp [takeN]) hnl' (by simp [hc1]) 0 (by simp [hc1]) hc2 (by omega)
        refine ⟨φ', w', .slice (some ⟨L.blk, L.dl + o', none⟩) n L.sk, ?_, ?_, k2, k3⟩
        · rw [g1 hroom, if_neg hsk]
          have r1' : (storeCells (Addr.add ⟨L.blk, L.dl + o', none⟩ (0 * size)) us).run P w = .ok () w' := by
            rw [addr_add, Nat.add_assoc]; exact r1
          simp only [Sem.run_bind, r1', Result.andThen_ok, Sem.run_pure, Nat.zero_add]
        · have := Rv.slice (φ := φ') nb 0 n n true _ hφ'
          simp only [if_true, Nat.add_zero, Nat.zero_add] at this
          rw [show n + (L.sk - n) = L.sk by omega] at this
          exact this
      · obtain ⟨nc, rest, w1, a1, a2, a3, a5, a4⟩ := g2 (by omega) [] (fun w' _ => by simp [Builtin.firstCells, loadCells, loadCellsFrom])
        obtain ⟨m1, m2⟩ := kill_sound hh _ hblk live_cells L hL
        obtain ⟨φ', k1, k2, k3⟩ := grown (need := n) (nc := nc) (rest := rest) (us := us) m1 hnb hf hus (by omega) (by rw [a2, Nat.zero_add]) (by simpa using a3)
        refine ⟨φ', w1, _, a4, ?_, k2, m2.trans k3⟩
        simpa using k1

theorem copy_sound {φ : Phi} {s s' : St} {w : World} (hh : Rh φ s w) {ts : Array TypeId} {ty : TypeId} {x y r : V} {a b : Value} (hx : Rv φ x a) (hy : Rv φ y b)
    (h : copyV P s ts x y = some (r, s')) : MS P φ s w (Builtin.copy_ ts ty #[a, b]) r s' := by
  simp only [copyV, Option.bind_some'] at h
  obtain ⟨e, he, size, hn, d, hd, n, hnl, cs, hcs, h⟩ := h
  obtain ⟨t0, ht0, hu0⟩ := typeAt_some (elemD_some he)
  obtain ⟨us, g1, g2⟩ := firstCells_run (P := P) hh hy hcs
  have g1' : (Builtin.firstCells size (Nat.min n d) b).run P w = .ok ⟨us⟩ w := g1
  have hl := lenOf_run (P := P) (w := w) hy hnl
  cases x <;> simp only [copyTo] at h <;> try (cases h; done)
  case slice b0 o ln cap sl =>
    obtain ⟨s1, hs1, h⟩ := Option.map_some'.1 h
    cases h
    simp only [lenOfV, Option.some.injEq] at hd; subst hd
    cases hx; rename_i L hL
    obtain ⟨w', r1, r2, r3, r4⟩ := write_cells (P := P) hh hL g2 hs1
    refine ⟨φ, w', _, ?_, .int .i64 _, r2, r3⟩
    simp only [Builtin.copy_, ht0]
    simp only [List.getElem?_toArray, Sem.run_bind, run_underlying hu0, Result.andThen_ok, hl, run_sz hn, g1', r1, Sem.run_pure, goInt]
    simp [run_underlying hu0, hl, run_sz hn, g1', r1, goInt]
  case nils =>
    cases h
    simp only [lenOfV, Option.some.injEq] at hd; subst hd
    cases hx
    have h0 : Nat.min n 0 = 0 := Nat.min_zero n
    rw [h0] at g1' ⊢
    refine MS.same hh ⟨_, ?_, .int .i64 _⟩
    simp only [Builtin.copy_, ht0]
    simp [run_underlying hu0, hl, run_sz hn, g1', goInt]
  case etail b0 o o' =>
    cases h
    simp only [lenOfV, Option.some.injEq] at hd; subst hd
    cases hx; rename_i L hL
    have h0 : Nat.min n 0 = 0 := Nat.min_zero n
    rw [h0] at g1' hcs ⊢
    have hc0 : cs = [] := by
      cases y <;> simp only [firstCellsV] at hcs <;> try (cases hcs; done)
      · cases hcs; simp [cellsOfBytes]
      · simp only [St.cells, Option.bind_some'] at hcs
        obtain ⟨l, _, hcs⟩ := hcs
        have : Nat.mul 0 size = 0 := Nat.zero_mul size
        rw [this] at hcs; simp [takeN] at hcs; exact hcs
      · rw [cond_some] at hcs; cases hcs.2; rfl
      · cases hcs; rfl
    subst hc0
    have hu0' : us = [] := List.length_eq_zero_iff.1 (by rw [← g2.length]; rfl)
    subst hu0'
    refine MS.same hh ⟨_, ?_, .int .i64 _⟩
    simp only [Builtin.copy_, ht0]
    simp [run_underlying hu0, hl, run_sz hn, g1', goInt, storeCells]

theorem clear_sound {φ : Phi} {s s' : St} {w : World} (hh : Rh φ s w) {ts : Array TypeId} {ty : TypeId} {x r : V} {a : Value} (hx : Rv φ x a)
    (h : clearV P s ts x = some (r, s')) : MS P φ s w (Builtin.clear_ ts ty #[a]) r s' := by
  simp only [clearV, Option.bind_some', cond_some] at h
  obtain ⟨e, he, size, hn, z, hz, hzl, h⟩ := h
  have hzl' := nat_beq_t hzl
  obtain ⟨t0, ht0, hu0⟩ := typeAt_some (elemD_some he)
  obtain ⟨uz, hz1, hz2⟩ := zeroOf_run (φ := φ) hz w
  cases x <;> simp only at h <;> try (cases h; done)
  case slice b0 o ln cap sl =>
    obtain ⟨s1, hs1, h⟩ := Option.map_some'.1 h
    cases h
    cases hx; rename_i L hL
    obtain ⟨rz, q1, q2, q3⟩ := zeroCells_eq hz2 ln
    obtain ⟨w', r1, r2, r3, r4⟩ := write_cells (P := P) hh hL q2 hs1
    refine ⟨φ, w', _, ?_, .tup _ _ .nil, r2, r3⟩
    have q1' : Builtin.zeroCells uz.cells ln = ⟨rz⟩ := q1
    cases ln with
    | zero =>
      have : rz = [] := List.length_eq_zero_iff.1 (by rw [q3]; simp)
      subst this
      simp only [storeCells, Sem.run_pure] at r1
      cases r1
      simp [Builtin.clear_, ht0, run_underlying hu0]
    | succ ln =>
      simp [Builtin.clear_, ht0, run_underlying hu0, hz1, q1', r1]
  case nils =>
    cases h; cases hx
    exact MS.same hh ⟨_, by simp [Builtin.clear_, ht0, run_underlying hu0], .tup _ _ .nil⟩
  case etail b0 o o' =>
    cases h; cases hx
    exact MS.same hh ⟨_, by simp [Builtin.clear_, ht0, run_underlying hu0], .tup _ _ .nil⟩
end
end Go.Ev
