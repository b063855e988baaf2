/- How the evaluator's states stand for the machine's worlds; what becomes of that where memory is made or written. -/
import Derived.Test.YtcbhnjlbolafpabGreatDoorEvA
import Derived.Laws.Sem
import Derived.Laws.World
import Derived.Laws.Cells
import Derived.Laws.Entries
import Derived.Calls
set_option linter.unusedSimpArgs false
set_option linter.unusedVariables false
namespace Go.Ev

theorem cond_some {α : Type} {c : Bool} {x : Option α} {y : α} : (bif c then x else none) = some y ↔ c = true ∧ x = some y := by cases c <;> simp
theorem cond_none_some {α : Type} {c : Bool} {x : Option α} {y : α} : (bif c then none else x) = some y ↔ c = false ∧ x = some y := by cases c <;> simp

/-! Tries. -/
theorem Q.get_upd {α : Type} (x : Q α) (i j : Nat) (f : α → α) (hi : i < 4) (hj : j < 4) : (x.upd i f).get j = if j = i then f (x.get i) else x.get j := by
  have h4 : ∀ k, k < 4 → k = 0 ∨ k = 1 ∨ k = 2 ∨ k = 3 := by omega
  rcases h4 i hi with rfl | rfl | rfl | rfl <;> rcases h4 j hj with rfl | rfl | rfl | rfl <;> rfl
theorem PT.get_full {α : Type} (x : α) : ∀ (d n : Nat), PT.get d (PT.full x d) n = x
  | 0, _ => rfl
  | d + 1, n => by
    have h : Q.get (α := PT α d) (PT.full x (d + 1)) (Nat.mod n 4) = PT.full x d := by
      show Q.get (⟨PT.full x d, PT.full x d, PT.full x d, PT.full x d⟩ : Q (PT α d)) (Nat.mod n 4) = PT.full x d
      unfold Q.get
      cases Nat.beq (Nat.mod n 4) 0 <;> cases Nat.beq (Nat.mod n 4) 1 <;> cases Nat.beq (Nat.mod n 4) 2 <;> rfl
    show PT.get d (Q.get (α := PT α d) (PT.full x (d + 1)) (Nat.mod n 4)) (Nat.div n 4) = x
    rw [h]; exact PT.get_full x d _
theorem PT.get_set_step {α : Type} (a : α) (d : Nat) (ih : ∀ (t : PT α d) (n m : Nat), n < 4 ^ d → m < 4 ^ d → PT.get d (PT.set d t n a) m = if m = n then a else PT.get d t m)
    (t : Q (PT α d)) (n m : Nat) (hn : n < 4 ^ (d + 1)) (hm : m < 4 ^ (d + 1)) :
    PT.get d (Q.get (Q.upd t (n % 4) fun y => PT.set d y (n / 4) a) (m % 4)) (m / 4) = if m = n then a else PT.get d (Q.get t (m % 4)) (m / 4) := by
  have hp : 4 ^ (d + 1) = 4 * 4 ^ d := by rw [Nat.pow_succ]; omega
  rw [Q.get_upd _ _ _ _ (by omega) (by omega)]
  by_cases h : m % 4 = n % 4
  · rw [if_pos h, ih _ _ _ (by omega) (by omega), h]
    by_cases h' : m / 4 = n / 4
    · rw [if_pos h', if_pos (by omega)]
    · rw [if_neg h', if_neg (fun e => h' (by rw [e]))]
  · rw [if_neg h, if_neg (fun e => h (by rw [e]))]
theorem PT.get_set {α : Type} (a : α) : ∀ (d : Nat) (t : PT α d) (n m : Nat), n < 4 ^ d → m < 4 ^ d → PT.get d (PT.set d t n a) m = if m = n then a else PT.get d t m
  | 0, t, n, m, hn, hm => by
    have : m = n := by simp at hn hm; omega
    rw [if_pos this]; rfl
  | d + 1, t, n, m, hn, hm => PT.get_set_step a d (PT.get_set a d) t n m hn hm

theorem T.get_nil {α : Type} (d n : Nat) : T.get d (T.nil d : T α d) n = none := by
  unfold T.get T.nil
  rw [PT.get_full]; cases Nat.blt n (4 ^ d) <;> rfl
theorem T.get_set {α : Type} (a : α) (d : Nat) (t : T α d) (n m : Nat) :
    T.get d (T.set d t n a) m = if n < 4 ^ d ∧ m = n then some a else T.get d t m := by
  unfold T.get T.set
  cases hn : Nat.blt n (4 ^ d) with
  | true =>
    have hn' : n < 4 ^ d := by simpa [Nat.blt_eq] using hn
    cases hm : Nat.blt m (4 ^ d) with
    | true =>
      have hm' : m < 4 ^ d := by simpa [Nat.blt_eq] using hm
      simp only [cond_true]
      rw [PT.get_set (some a) d t n m hn' hm']
      by_cases e : m = n
      · rw [if_pos e, if_pos ⟨hn', e⟩]
      · rw [if_neg e, if_neg (fun h => e h.2)]
    | false =>
      have : ¬ (n < 4 ^ d ∧ m = n) := fun h => by rw [h.2, hn] at hm; cases hm
      rw [if_neg this]; rfl
  | false =>
    have : ¬ (n < 4 ^ d ∧ m = n) := fun h => by
      have : Nat.blt n (4 ^ d) = true := by rw [Nat.blt_eq]; exact h.1
      rw [hn] at this; cases this
    rw [if_neg this]; rfl

theorem St.get_set (s : St) (b c : Nat) (x : Blk) : (s.set b x).get c = if b < HN ∧ c = b then some x else s.get c := T.get_set x HD s.heap b c
theorem St.get_set_other {s : St} {b c : Nat} {x : Blk} (h : c ≠ b) : (s.set b x).get c = s.get c := by rw [St.get_set, if_neg (fun hh => h hh.2)]
theorem T.get_lt_pow {α : Type} (d : Nat) (t : T α d) (n : Nat) (a : α) (h : T.get d t n = some a) : n < 4 ^ d := by
  unfold T.get at h
  rw [cond_some] at h
  simpa [Nat.blt_eq] using h.1
theorem St.get_lt {s : St} {b : Nat} {x : Blk} (h : s.get b = some x) : b < HN := T.get_lt_pow HD s.heap b x h
theorem St.get_set_same {s : St} {b : Nat} {x y : Blk} (h : s.get b = some y) : (s.set b x).get b = some x := by rw [St.get_set, if_pos ⟨St.get_lt h, rfl⟩]

theorem St.new_spec {s s' : St} {x : Blk} {b : Nat} (h : s.new x = some (b, s')) :
    b = s.next ∧ s'.next = s.next + 1 ∧ s.next < HN ∧ ∀ c, s'.get c = if c = s.next then some x else s.get c := by
  unfold St.new at h
  rw [cond_some] at h
  obtain ⟨hlt, h⟩ := h
  have hlt' : s.next < HN := by simpa [Nat.blt_eq] using hlt
  simp only [Option.some.injEq, Prod.mk.injEq] at h
  obtain ⟨rfl, rfl⟩ := h
  refine ⟨rfl, rfl, hlt', fun c => ?_⟩
  show T.get HD (T.set HD s.heap s.next x) c = _
  rw [T.get_set]
  by_cases hc : c = s.next
  · rw [if_pos ⟨hlt', hc⟩, if_pos hc]
  · rw [if_neg (fun hh => hc hh.2), if_neg hc]; rfl

/-! Where a block lies. -/
structure Loc where
  blk : Nat
  dl : Nat
  sk : Nat

abbrev Phi := Nat → Option Loc

inductive RFn (φ : Phi) : Fn → Fn → Prop
  | func (f : FuncId) : RFn φ (.func f) (.func f)
  | method (n : String) : RFn φ (.method n) (.method n)
  | yield (l : Nat) (L : Loc) : φ l = some L → RFn φ (.yield l) (.yield L.blk)

mutual
inductive Rv (φ : Phi) : V → Value → Prop
  | bool (b : Bool) : Rv φ (.bool b) (.bool b)
  | int (k : IntKind) (n : Int) : Rv φ (.int k n) (.int k n)
  | str (s : List UInt8) : Rv φ (.str s) (.string ⟨⟨s⟩⟩)
  | ptr (b o : Nat) (l : Loc) : φ b = some l → Rv φ (.ptr b o) (.pointer (some ⟨l.blk, l.dl + o, none⟩))
  | nilp : Rv φ .nilp (.pointer none)
  | slice (b o len cap : Nat) (sl : Bool) (l : Loc) : φ b = some l →
      Rv φ (.slice b o len cap sl) (.slice (some ⟨l.blk, l.dl + o, none⟩) len (cap + if sl then l.sk else 0))
  | etail (b o o' : Nat) (l : Loc) : φ b = some l →
      Rv φ (.etail b o o') (.slice (some ⟨l.blk, l.dl + (if l.sk = 0 then o else o'), none⟩) 0 l.sk)
  | nils : Rv φ .nils (.slice none 0 0)
  | map (r : Nat) (l : Loc) : φ r = some l → Rv φ (.map r) (.map (some l.blk))
  | nilm : Rv φ .nilm (.map none)
  | func (f g : Fn) (x y : List V) (cx cy : List Value) : RFn φ f g → RvL φ x cx → RvL φ y cy → Rv φ (.func f x y) (.func g ⟨cx⟩ ⟨cy⟩)
  | nilf : Rv φ .nilf .nilFunc
  | iface (t : TypeId) (v : V) (u : Value) : Rv φ v u → Rv φ (.iface t v) (.iface t u)
  | nili : Rv φ .nili .nilIface
  | agg (l : List V) (cs : List Value) : RvL φ l cs → Rv φ (.agg l) (.agg ⟨cs⟩)
  | tup (l : List V) (cs : List Value) : RvL φ l cs → Rv φ (.tup l) (.tuple ⟨cs⟩)
inductive RvL (φ : Phi) : List V → List Value → Prop
  | nil : RvL φ [] []
  | cons (v : V) (u : Value) (l : List V) (m : List Value) : Rv φ v u → RvL φ l m → RvL φ (v :: l) (u :: m)
end

def PLe (φ φ' : Phi) : Prop := ∀ b l, φ b = some l → φ' b = some l

theorem RFn.mono {φ φ' : Phi} (h : PLe φ φ') {f g : Fn} (r : RFn φ f g) : RFn φ' f g := by
  cases r with
  | func f => exact .func f
  | method n => exact .method n
  | yield l L hl => exact .yield l L (h _ _ hl)

mutual
theorem Rv.mono {φ φ' : Phi} (h : PLe φ φ') : ∀ {v : V} {u : Value}, Rv φ v u → Rv φ' v u
  | _, _, .bool b => .bool b
  | _, _, .int k n => .int k n
  | _, _, .str s => .str s
  | _, _, .ptr b o l hl => .ptr b o l (h _ _ hl)
  | _, _, .nilp => .nilp
  | _, _, .slice b o len cap sl l hl => .slice b o len cap sl l (h _ _ hl)
  | _, _, .etail b o o' l hl => .etail b o o' l (h _ _ hl)
  | _, _, .nils => .nils
  | _, _, .map r l hl => .map r l (h _ _ hl)
  | _, _, .nilm => .nilm
  | _, _, .func f g x y cx cy hf hx hy => .func f g x y cx cy (hf.mono h) (RvL.mono h hx) (RvL.mono h hy)
  | _, _, .nilf => .nilf
  | _, _, .iface t v u hv => .iface t v u (Rv.mono h hv)
  | _, _, .nili => .nili
  | _, _, .agg l cs hl => .agg l cs (RvL.mono h hl)
  | _, _, .tup l cs hl => .tup l cs (RvL.mono h hl)
theorem RvL.mono {φ φ' : Phi} (h : PLe φ φ') : ∀ {l : List V} {m : List Value}, RvL φ l m → RvL φ' l m
  | _, _, .nil => .nil
  | _, _, .cons v u l m hv hl => .cons v u l m (Rv.mono h hv) (RvL.mono h hl)
end

theorem RvL.length {φ : Phi} : ∀ {l : List V} {m : List Value}, RvL φ l m → l.length = m.length
  | _, _, .nil => rfl
  | _, _, .cons _ _ _ _ _ hl => by simp [hl.length]
theorem RvL.get {φ : Phi} : ∀ {l : List V} {m : List Value}, RvL φ l m → ∀ (i : Nat) (v : V), l[i]? = some v → ∃ u, m[i]? = some u ∧ Rv φ v u
  | _, _, .nil, i, v, h => by simp at h
  | _, _, .cons v u l m hv hl, i, x, h => by
    cases i with
    | zero => simp at h; subst h; exact ⟨u, rfl, hv⟩
    | succ i => simpa using hl.get i x (by simpa using h)
theorem RvL.get' {φ : Phi} : ∀ {l : List V} {m : List Value}, RvL φ l m → ∀ (i : Nat) (u : Value), m[i]? = some u → ∃ v, l[i]? = some v ∧ Rv φ v u
  | _, _, .nil, i, v, h => by simp at h
  | _, _, .cons v u l m hv hl, i, x, h => by
    cases i with
    | zero => simp at h; subst h; exact ⟨v, rfl, hv⟩
    | succ i => simpa using hl.get' i x (by simpa using h)
theorem RvL.append {φ : Phi} : ∀ {l : List V} {m : List Value}, RvL φ l m → ∀ {l' : List V} {m' : List Value}, RvL φ l' m' → RvL φ (l ++ l') (m ++ m')
  | _, _, .nil, _, _, h => h
  | _, _, .cons v u l m hv hl, _, _, h => .cons v u _ _ hv (hl.append h)
theorem RvL.drop {φ : Phi} : ∀ (n : Nat) {l : List V} {m : List Value}, RvL φ l m → RvL φ (l.drop n) (m.drop n)
  | 0, _, _, h => by simpa using h
  | n + 1, _, _, .nil => by simpa using RvL.nil
  | n + 1, _, _, .cons _ _ _ _ _ hl => by simpa using hl.drop n
theorem RvL.of_get {φ : Phi} : ∀ {l : List V} {m : List Value}, l.length = m.length → (∀ (i : Nat) (v : V) (u : Value), l[i]? = some v → m[i]? = some u → Rv φ v u) → RvL φ l m
  | [], [], _, _ => .nil
  | [], _ :: _, h, _ => by simp at h
  | _ :: _, [], h, _ => by simp at h
  | v :: l, u :: m, h, hh => .cons v u l m (hh 0 v u rfl rfl) (RvL.of_get (by simpa using h) (fun i a b ha hb => hh (i + 1) a b (by simpa using ha) (by simpa using hb)))

theorem Rv.undef {φ : Phi} : Rv φ Ev.undef Go.undef := .tup [] [] .nil

/-! A row of cells. -/
def RowR (φ : Phi) (cs : List V) (dl : Nat) (c : Array Value) : Prop := ∀ i v, cs[i]? = some v → v.one = true ∧ ∃ u, c[dl + i]? = some u ∧ Rv φ v u
theorem RowR.mono {φ φ' : Phi} (h : PLe φ φ') {cs : List V} {dl : Nat} {c : Array Value} (r : RowR φ cs dl c) : RowR φ' cs dl c :=
  fun i v hv => let ⟨h1, u, hu, hr⟩ := r i v hv; ⟨h1, u, hu, hr.mono h⟩

def REnt (φ : Phi) (a : V × V) (e : MapEntry) : Prop := Rv φ a.1 e.key ∧ Rv φ a.2 e.val
inductive REnts (φ : Phi) : List (V × V) → List MapEntry → Prop
  | nil : REnts φ [] []
  | cons (a : V × V) (e : MapEntry) (l : List (V × V)) (m : List MapEntry) : REnt φ a e → REnts φ l m → REnts φ (a :: l) (e :: m)
theorem REnts.mono {φ φ' : Phi} (h : PLe φ φ') : ∀ {l : List (V × V)} {m : List MapEntry}, REnts φ l m → REnts φ' l m
  | _, _, .nil => .nil
  | _, _, .cons a e l m hr hl => .cons a e l m ⟨hr.1.mono h, hr.2.mono h⟩ (hl.mono h)
def RMap (φ : Phi) (es : List (V × V)) (en : List MapEntry) : Prop := ∃ es', es'.Perm es ∧ REnts φ es' en

def RBorn : Option (List Nat × Nat) → List MapEntry → Nat → Prop
  | none, _, _ => True
  | some (bs, c), en, clk => (en.map (·.born)).Perm bs ∧ clk = c
def RSeen : Option (Nat × List Nat × Nat) → Nat → Array Nat → Nat → Prop
  | none, _, seen, _ => seen = #[]
  | some (a, b, c), since, seen, last => since = a ∧ seen.toList = b ∧ last = c
/-- the slots of a frame -/
structure RT (φ : Phi) (t : T V TD) (n : Nat) (c : Array Value) : Prop where
  size : c.size = n
  lt : n ≤ TN
  slot : ∀ i, Rv φ ((T.get TD t i).getD Ev.undef) (c.getD i Go.undef)
theorem RT.mono {φ φ' : Phi} (h : PLe φ φ') {t : T V TD} {n : Nat} {c : Array Value} (r : RT φ t n c) : RT φ' t n c := ⟨r.size, r.lt, fun i => (r.slot i).mono h⟩

def Rb (φ : Phi) (w : World) (l : Loc) : Blk → Prop
  | .cells cs x esz => ∃ c e lo hi, w.heap[l.blk]? = some (.cells c e (lo, hi)) ∧ RowR φ cs l.dl c ∧ l.dl + cs.length + l.sk * esz ≤ c.size ∧
      (lo = hi ∨ c.size ≤ lo) ∧ (x = true → lo = 0 ∧ hi = 0 ∧ l.dl = 0 ∧ l.sk = 0)
  | .map es bo => ∃ en clk, w.heap[l.blk]? = some (.map en clk) ∧ RMap φ es en.toList ∧ RBorn bo en.toList clk
  | .iter m x => ∃ mc since seen last, w.heap[l.blk]? = some (.mapIter mc since seen last) ∧ (match m with | none => mc = none | some r => ∃ L, φ r = some L ∧ mc = some L.blk) ∧ l.dl = 0 ∧ RSeen x since seen last
  | .striter rest pos => ∃ full, w.heap[l.blk]? = some (.stringIter ⟨⟨full⟩⟩ pos) ∧ full.drop pos = rest ∧ pos ≤ full.length ∧ l.dl = 0
  | .loop st pend tmps size params asg body => ∃ lp : Loop, w.heap[l.blk]? = some (.loop lp) ∧ lp.state = st ∧ lp.pending = pend ∧ RT φ tmps size lp.tmps ∧
      lp.params.toList = params ∧ lp.assign = asg ∧ lp.body = body
  | .defd => w.heap[l.blk]? = some (.deferred (some []))
  | .dead => True

def Blk.live : Blk → Prop
  | .dead => False
  | _ => True

theorem Rb.mono {φ φ' : Phi} {w w' : World} {l : Loc} (h : PLe φ φ') (hw : w'.heap[l.blk]? = w.heap[l.blk]?) : ∀ {x : Blk}, Rb φ w l x → Rb φ' w' l x
  | .cells cs x esz, ⟨c, e, lo, hi, h1, h2, h3⟩ => ⟨c, e, lo, hi, hw.trans h1, h2.mono h, h3⟩
  | .map es bo, ⟨en, clk, h1, ⟨es', hp, hr⟩, hb⟩ => ⟨en, clk, hw.trans h1, ⟨es', hp, hr.mono h⟩, hb⟩
  | .iter m _, ⟨mc, since, seen, last, h1, h2, h3⟩ => ⟨mc, since, seen, last, hw.trans h1, by
      cases m with
      | none => exact h2
      | some r => obtain ⟨L, hL, hm⟩ := h2; exact ⟨L, h _ _ hL, hm⟩, h3⟩
  | .striter rest pos, ⟨full, h1, h2⟩ => ⟨full, hw.trans h1, h2⟩
  | .loop .., ⟨lp, h1, h2, h3, h4, h5⟩ => ⟨lp, hw.trans h1, h2, h3, h4.mono h, h5⟩
  | .defd, h1 => hw.trans h1
  | .dead, _ => trivial

structure Rh (φ : Phi) (s : St) (w : World) : Prop where
  blk : ∀ b l x, φ b = some l → s.get b = some x → Rb φ w l x
  inj : ∀ b b' l l' x x', φ b = some l → φ b' = some l' → s.get b = some x → s.get b' = some x' → x.live → x'.live → l.blk = l'.blk → b = b'
  lt : ∀ b l, φ b = some l → l.blk < w.heap.size
  wf : ∀ b, s.next ≤ b → s.get b = none

/-- all but the heap, and how much of the tape is read -/
def Same (w w' : World) : Prop := w'.os = w.os ∧ w'.tape = w.tape ∧ w'.output = w.output
theorem Same.refl (w : World) : Same w w := ⟨rfl, rfl, rfl⟩
theorem Same.trans {w w₁ w₂ : World} (h : Same w w₁) (h' : Same w₁ w₂) : Same w w₂ := ⟨h'.1.trans h.1, h'.2.1.trans h.2.1, h'.2.2.trans h.2.2⟩
/-- what a run leaves as it was, and how it goes on -/
structure Ext (φ : Phi) (s : St) (w : World) (φ' : Phi) (s' : St) (w' : World) : Prop where
  le : PLe φ φ'
  out : ∀ b, (b < s.next ∨ s'.next ≤ b) → φ' b = φ b
  nx : s.next ≤ s'.next
  abs : ∀ b, (b < s.next ∨ s'.next ≤ b) → (φ b = none ∨ s.get b = none) → s'.get b = s.get b
  size : w.heap.size ≤ w'.heap.size
  frame : ∀ B, B < w.heap.size → (∀ b l x, φ b = some l → s.get b = some x → x.live → l.blk ≠ B) → w'.heap[B]? = w.heap[B]?
  back : ∀ b l x, φ' b = some l → s'.get b = some x → x.live → l.blk < w.heap.size → ∃ b0 l0 x0, φ b0 = some l0 ∧ s.get b0 = some x0 ∧ x0.live ∧ l0.blk = l.blk
  sm : Same w w'

def Fresh (φ : Phi) (n m : Nat) : Prop := ∀ b, n ≤ b → b < m → φ b = none

theorem Ext.refl (φ : Phi) (s : St) (w : World) : Ext φ s w φ s w :=
  ⟨fun _ _ h => h, fun _ _ => rfl, Nat.le_refl _, fun _ _ _ => rfl, Nat.le_refl _, fun _ _ _ => rfl, fun b l x h1 h2 h3 _ => ⟨b, l, x, h1, h2, h3, rfl⟩, Same.refl w⟩

theorem Ext.trans {φ φ₁ φ₂ : Phi} {s s₁ s₂ : St} {w w₁ w₂ : World} (h : Ext φ s w φ₁ s₁ w₁) (h' : Ext φ₁ s₁ w₁ φ₂ s₂ w₂) : Ext φ s w φ₂ s₂ w₂ where
  le := fun b l hb => h'.le _ _ (h.le _ _ hb)
  out := fun b hb => by
    have n1 := h.nx; have n2 := h'.nx
    rw [h'.out b (by omega), h.out b (by omega)]
  nx := Nat.le_trans h.nx h'.nx
  abs := fun b hb hh => by
    have n1 := h.nx; have n2 := h'.nx
    have e1 := h.abs b (by omega) hh
    have e0 := h.out b (by omega)
    rw [h'.abs b (by omega) (by rw [e0, e1]; exact hh), e1]
  size := Nat.le_trans h.size h'.size
  frame := fun B hB hh => by
    rw [h'.frame B (Nat.lt_of_lt_of_le hB h.size) ?_, h.frame B hB hh]
    intro b l x h1 h2 h3 e
    obtain ⟨b0, l0, x0, a1, a2, a3, a4⟩ := h.back b l x h1 h2 h3 (e ▸ hB)
    exact hh b0 l0 x0 a1 a2 a3 (a4.trans e)
  back := fun b l x h1 h2 h3 h4 => by
    obtain ⟨b1, l1, x1, a1, a2, a3, a4⟩ := h'.back b l x h1 h2 h3 (Nat.lt_of_lt_of_le h4 h.size)
    obtain ⟨b0, l0, x0, c1, c2, c3, c4⟩ := h.back b1 l1 x1 a1 a2 a3 (by rw [a4]; exact h4)
    exact ⟨b0, l0, x0, c1, c2, c3, c4.trans a4⟩
  sm := h.sm.trans h'.sm

theorem Fresh.sub {φ : Phi} {n m n' m' : Nat} (h : Fresh φ n m) (h1 : n ≤ n') (h2 : m' ≤ m) : Fresh φ n' m' :=
  fun b hb hb' => h b (Nat.le_trans h1 hb) (Nat.lt_of_lt_of_le hb' h2)
theorem Fresh.ext {φ φ₁ : Phi} {s s₁ : St} {w w₁ : World} {m : Nat} (h : Fresh φ s.next m) (e : Ext φ s w φ₁ s₁ w₁) : Fresh φ₁ s₁.next m :=
  fun b hb hb' => by rw [e.out b (.inr hb)]; exact h b (Nat.le_trans e.nx hb) hb'

/-! The world alone moves, and no block of the heap turns. -/
theorem Rh.world {φ : Phi} {s : St} {w w' : World} (h : Rh φ s w) (hw : w'.heap = w.heap) : Rh φ s w' :=
  ⟨fun b l x h1 h2 => (h.blk b l x h1 h2).mono (fun _ _ h => h) (by rw [hw]), h.inj, fun b l h1 => by rw [hw]; exact h.lt b l h1, h.wf⟩
theorem Ext.world {φ : Phi} {s : St} {w w' : World} (hw : w'.heap = w.heap) (sm : Same w w' := by first | exact ⟨rfl, rfl, rfl⟩ | assumption) : Ext φ s w φ s w' :=
  ⟨fun _ _ h => h, fun _ _ => rfl, Nat.le_refl _, fun _ _ _ => rfl, by rw [hw]; exact Nat.le_refl _, fun _ _ _ => by rw [hw], fun b l x h1 h2 h3 _ => ⟨b, l, x, h1, h2, h3, rfl⟩, sm⟩

def upd (φ : Phi) (b : Nat) (l : Loc) : Phi := fun c => if c = b then some l else φ c
theorem upd_same (φ : Phi) (b : Nat) (l : Loc) : upd φ b l b = some l := if_pos rfl
theorem upd_other {φ : Phi} {b c : Nat} {l : Loc} (h : c ≠ b) : upd φ b l c = φ c := if_neg h
theorem upd_le {φ : Phi} {b : Nat} {l : Loc} (h : φ b = none) : PLe φ (upd φ b l) := fun c k hc => by
  have : c ≠ b := fun e => by rw [e, h] at hc; cases hc
  rw [upd_other this, hc]

/-- a new block, in the machine too -/
theorem alloc_sound {φ : Phi} {s s' : St} {w w' : World} {x : Blk} {b sk : Nat} {o : Obj} (h : Rh φ s w) (hn : s.new x = some (b, s')) (hf : Fresh φ s.next s'.next)
    (hw : w'.heap = w.heap.push o) (hx : Rb (upd φ b ⟨w.heap.size, 0, sk⟩) w' ⟨w.heap.size, 0, sk⟩ x) (sm : Same w w' := by first | exact ⟨rfl, rfl, rfl⟩ | assumption) :
    Rh (upd φ b ⟨w.heap.size, 0, sk⟩) s' w' ∧ Ext φ s w (upd φ b ⟨w.heap.size, 0, sk⟩) s' w' := by
  obtain ⟨rfl, hnx, hlt, hget⟩ := St.new_spec hn
  have hnone : φ s.next = none := hf _ (Nat.le_refl _) (by omega)
  have hle : PLe φ (upd φ s.next ⟨w.heap.size, 0, sk⟩) := upd_le hnone
  have hold : ∀ B, B < w.heap.size → w'.heap[B]? = w.heap[B]? := fun B hB => by rw [hw, Array.getElem?_push_lt hB, Array.getElem?_eq_getElem hB]
  have hne : ∀ c k, φ c = some k → c ≠ s.next := fun c k hc e => by rw [e, hnone] at hc; cases hc
  refine ⟨⟨?_, ?_, ?_, fun c hc => by rw [hget, if_neg (by omega)]; exact h.wf c (by omega)⟩, ⟨hle, ?_, by omega, ?_, by rw [hw]; simp, fun B hB _ => hold B hB, ?_, sm⟩⟩
  · intro c k y hc hy
    by_cases e : c = s.next
    · subst e
      rw [upd_same] at hc; cases hc
      rw [hget, if_pos rfl] at hy; cases hy
      exact hx
    · rw [upd_other e] at hc
      rw [hget, if_neg e] at hy
      exact (h.blk c k y hc hy).mono hle (hold _ (h.lt c k hc))
  · intro c c' k k' y y' hc hc' hy hy' hl hl' he
    by_cases e : c = s.next <;> by_cases e' : c' = s.next
    · rw [e, e']
    · subst e
      rw [upd_same] at hc; cases hc
      rw [upd_other e'] at hc'
      have := h.lt c' k' hc'
      simp at he; omega
    · subst e'
      rw [upd_same] at hc'; cases hc'
      rw [upd_other e] at hc
      have := h.lt c k hc
      simp at he; omega
    · rw [upd_other e] at hc; rw [upd_other e'] at hc'
      rw [hget, if_neg e] at hy; rw [hget, if_neg e'] at hy'
      exact h.inj c c' k k' y y' hc hc' hy hy' hl hl' he
  · intro c k hc
    by_cases e : c = s.next
    · subst e; rw [upd_same] at hc; cases hc; rw [hw]; simp
    · rw [upd_other e] at hc
      have := h.lt c k hc
      rw [hw]; simp; omega
  · intro c hc
    exact upd_other (by omega)
  · intro c hc _
    rw [hget, if_neg (by omega)]
  · intro c k y hc hy hl hB
    by_cases e : c = s.next
    · subst e; rw [upd_same] at hc; cases hc; simp at hB
    · rw [upd_other e] at hc; rw [hget, if_neg e] at hy
      exact ⟨c, k, y, hc, hy, hl, rfl⟩

/-- a block that is there turns, in the machine too -/
theorem write_sound {φ : Phi} {s : St} {w w' : World} {x x' : Blk} {b : Nat} {l : Loc} (h : Rh φ s w) (hb : φ b = some l) (hx : s.get b = some x) (hl : x.live)
    (hsz : w'.heap.size = w.heap.size) (hw : ∀ B, B ≠ l.blk → w'.heap[B]? = w.heap[B]?) (hx' : Rb φ w' l x') (sm : Same w w' := by first | exact ⟨rfl, rfl, rfl⟩ | assumption) :
    Rh φ (s.set b x') w' ∧ Ext φ s w φ (s.set b x') w' := by
  have hget : ∀ c, (s.set b x').get c = if c = b then some x' else s.get c := fun c => by
    by_cases e : c = b
    · subst e; rw [if_pos rfl]; exact St.get_set_same hx
    · rw [if_neg e, St.get_set_other e]
  refine ⟨⟨?_, ?_, fun c k hc => by rw [hsz]; exact h.lt c k hc, fun c hc => by rw [hget, if_neg (fun e => by have := h.wf c hc; rw [e, hx] at this; cases this)]; exact h.wf c hc⟩, ⟨fun _ _ h => h, fun _ _ => rfl, Nat.le_refl _, ?_, by rw [hsz]; exact Nat.le_refl _, ?_, ?_, sm⟩⟩
  · intro c k y hc hy
    rw [hget] at hy
    by_cases e : c = b
    · subst e; rw [if_pos rfl] at hy; cases hy; rw [hb] at hc; cases hc; exact hx'
    · rw [if_neg e] at hy
      by_cases hd : y.live
      · refine (h.blk c k y hc hy).mono (fun _ _ h => h) (hw _ fun he => e ?_)
        exact h.inj c b k l y x hc hb hy hx hd hl he
      · cases y <;> first | exact absurd trivial hd | trivial
  · intro c c' k k' y y' hc hc' hy hy' hd hd' he
    rw [hget] at hy hy'
    have key : ∀ d z, (if d = b then some x' else s.get d) = some z → z.live → ∃ z', s.get d = some z' ∧ z'.live := fun d z hz hzl => by
      by_cases e : d = b
      · subst e; exact ⟨x, hx, hl⟩
      · rw [if_neg e] at hz; exact ⟨z, hz, hzl⟩
    obtain ⟨z, hz, hzl⟩ := key c y hy hd
    obtain ⟨z', hz', hzl'⟩ := key c' y' hy' hd'
    exact h.inj c c' k k' z z' hc hc' hz hz' hzl hzl' he
  · intro c _ hc
    rw [hget]
    by_cases e : c = b
    · subst e; rw [hb, hx] at hc; simp at hc
    · rw [if_neg e]
  · intro B hB hh
    exact hw B fun e => hh b l x hb hx hl e.symm
  · intro c k y hc hy hd hB
    rw [hget] at hy
    by_cases e : c = b
    · subst e; exact ⟨c, l, x, hb, hx, hl, by rw [hb] at hc; cases hc; rfl⟩
    · rw [if_neg e] at hy; exact ⟨c, k, y, hc, hy, hd, rfl⟩

/-- a row that is taken over by another one: the elder one is let go, the new one lies in the same block of the machine -/
theorem take_sound {φ : Phi} {s s' : St} {w w' : World} {x x' : Blk} {b n : Nat} {l l' : Loc} (h : Rh φ s w) (hb : φ b = some l) (hx : s.get b = some x) (hl : x.live)
    (hn : (s.set b .dead).new x' = some (n, s')) (hf : Fresh φ s.next s'.next) (hsame : l'.blk = l.blk)
    (hsz : w'.heap.size = w.heap.size) (hw : ∀ B, B ≠ l.blk → w'.heap[B]? = w.heap[B]?) (hx' : Rb (upd φ n l') w' l' x') (sm : Same w w' := by first | exact ⟨rfl, rfl, rfl⟩ | assumption) :
    Rh (upd φ n l') s' w' ∧ Ext φ s w (upd φ n l') s' w' := by
  obtain ⟨rfl, hnx, hlt, hget0⟩ := St.new_spec hn
  have hnx' : s'.next = s.next + 1 := hnx
  have hnone : φ s.next = none := hf _ (Nat.le_refl _) (by omega)
  have hbn : b ≠ s.next := fun e => by rw [e, hnone] at hb; cases hb
  have hget : ∀ c, s'.get c = if c = s.next then some x' else if c = b then some .dead else s.get c := fun c => by
    rw [hget0]
    show (if c = s.next then _ else _) = _
    by_cases e : c = s.next
    · rw [if_pos e, if_pos e]
    · rw [if_neg e, if_neg e]
      by_cases e' : c = b
      · subst e'; rw [if_pos rfl]; exact St.get_set_same hx
      · rw [if_neg e', St.get_set_other e']
  have hle : PLe φ (upd φ s.next l') := upd_le hnone
  have hlive : ∀ c y, s'.get c = some y → y.live → c ≠ s.next → c ≠ b ∧ s.get c = some y := fun c y hy hd e => by
    rw [hget, if_neg e] at hy
    by_cases e' : c = b
    · rw [if_pos e'] at hy; cases hy; exact absurd hd (by simp [Blk.live])
    · rw [if_neg e'] at hy; exact ⟨e', hy⟩
  show Rh (upd φ s.next l') s' w' ∧ Ext φ s w (upd φ s.next l') s' w'
  refine ⟨⟨?_, ?_, ?_, fun c hc => by rw [hget, if_neg (by omega), if_neg (fun e => by have := h.wf c (by omega); rw [e, hx] at this; cases this)]; exact h.wf c (by omega)⟩, ⟨hle, ?_, by omega, ?_, by rw [hsz]; exact Nat.le_refl _, ?_, ?_, sm⟩⟩
  · intro c k y hc hy
    by_cases e : c = s.next
    · subst e
      rw [upd_same] at hc; cases hc
      rw [hget, if_pos rfl] at hy; cases hy
      exact hx'
    · rw [upd_other e] at hc
      by_cases hd : y.live
      · obtain ⟨e', hy'⟩ := hlive c y hy hd e
        refine (h.blk c k y hc hy').mono hle (hw _ fun he => e' ?_)
        exact h.inj c b k l y x hc hb hy' hx hd hl he
      · cases y <;> first | exact absurd trivial hd | trivial
  · intro c c' k k' y y' hc hc' hy hy' hd hd' he
    by_cases e : c = s.next <;> by_cases e' : c' = s.next
    · rw [e, e']
    · subst e
      rw [upd_same] at hc; cases hc
      rw [upd_other e'] at hc'
      obtain ⟨e2, hy2⟩ := hlive c' y' hy' hd' e'
      exact absurd (h.inj c' b k' l y' x hc' hb hy2 hx hd' hl (by rw [← he, hsame])) e2
    · subst e'
      rw [upd_same] at hc'; cases hc'
      rw [upd_other e] at hc
      obtain ⟨e2, hy2⟩ := hlive c y hy hd e
      exact absurd (h.inj c b k l y x hc hb hy2 hx hd hl (by rw [he, hsame])) e2
    · rw [upd_other e] at hc; rw [upd_other e'] at hc'
      exact h.inj c c' k k' y y' hc hc' (hlive c y hy hd e).2 (hlive c' y' hy' hd' e').2 hd hd' he
  · intro c k hc
    by_cases e : c = s.next
    · subst e; rw [upd_same] at hc; cases hc; rw [hsz, hsame]; exact h.lt b l hb
    · rw [upd_other e] at hc; rw [hsz]; exact h.lt c k hc
  · intro c hc
    exact upd_other (by omega)
  · intro c hc hh
    rw [hget, if_neg (by omega)]
    by_cases e : c = b
    · subst e; rw [hb, hx] at hh; simp at hh
    · rw [if_neg e]
  · intro B hB hh
    exact hw B fun e => hh b l x hb hx hl e.symm
  · intro c k y hc hy hd hB
    by_cases e : c = s.next
    · subst e; rw [upd_same] at hc; cases hc; exact ⟨b, l, x, hb, hx, hl, hsame.symm⟩
    · rw [upd_other e] at hc
      exact ⟨c, k, y, hc, (hlive c y hy hd e).2, hd, rfl⟩

/-- a row that is let go; a new one of the machine -/
theorem kill_sound {φ : Phi} {s : St} {w : World} {b : Nat} (h : Rh φ s w) (x : Blk) (hx : s.get b = some x) (hl : x.live) (l : Loc) (hb : φ b = some l) :
    Rh φ (s.set b .dead) w ∧ Ext φ s w φ (s.set b .dead) w :=
  write_sound h hb hx hl rfl (fun _ _ => rfl) trivial

end Go.Ev
