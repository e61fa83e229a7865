/- The engine, part A: typed data, how data lie in memory, and what keeps them there. No conditions. -/
import Derived.WalkKit
import Derived.RangeFuncMany
import Derived.RangeFuncLeaves
namespace Go.Tk
open Go Go.RowKit

inductive T where
  | int | bool | nil
  | cons (a b : T)
  | sl (a : T)
  | osl (a : T)
  /- where a datum lies that is written to no more: a variable that a closure captures -/
  | ref (a : T)
  | arr (n : Nat) (a : T)
  | fn (a r : T)
  /- a slice that is nil exactly if it is empty -/
  | nsl (a : T)
  /- what is ranged over, a function: what it hands over, one after another -/
  | seq (fr : Bool) (a : T)

@[reducible] def T.den : T → Type
  | .int => Int
  | .bool => Bool
  | .nil => Unit
  | .cons a b => a.den × b.den
  | .sl a => List a.den
  | .osl a => List a.den
  | .ref a => a.den
  | .arr _ a => List a.den
  | .fn a r => (a.den → Prop) × (a.den → r.den)
  | .nsl a => List a.den
  | .seq _ a => Prop × List a.den

def T.csize : T → Nat
  | .int => 1 | .bool => 1 | .nil => 0
  | .cons a b => a.csize + b.csize
  | .sl _ => 1 | .osl _ => 1 | .ref _ => 1
  | .arr n a => n * a.csize
  | .fn _ _ => 1 | .nsl _ => 1 | .seq _ _ => 1

def T.agg : T → Bool
  | .nil => true | .cons _ _ => true | .arr _ _ => true | _ => false

def T.beq : T → T → Bool
  | .int, .int => true
  | .bool, .bool => true
  | .nil, .nil => true
  | .cons a b, .cons c d => a.beq c && b.beq d
  | .sl a, .sl b => a.beq b
  | .osl a, .osl b => a.beq b
  | .ref a, .ref b => a.beq b
  | .arr n a, .arr m b => Nat.beq n m && a.beq b
  | .fn a r, .fn b s => a.beq b && r.beq s
  | .nsl a, .nsl b => a.beq b
  | .seq f a, .seq g b => (f == g) && a.beq b
  | _, _ => false

theorem T.beq_eq : ∀ {a b : T}, a.beq b = true → a = b := by
  intro a
  induction a with
  | int => intro b h; cases b <;> simp_all [T.beq]
  | bool => intro b h; cases b <;> simp_all [T.beq]
  | nil => intro b h; cases b <;> simp_all [T.beq]
  | cons a b iha ihb =>
    intro c h
    cases c <;> simp [T.beq] at h
    rw [iha h.1, ihb h.2]
  | sl a iha => intro c h; cases c <;> simp [T.beq] at h; rw [iha h]
  | osl a iha => intro c h; cases c <;> simp [T.beq] at h; rw [iha h]
  | ref a iha => intro c h; cases c <;> simp [T.beq] at h; rw [iha h]
  | arr n a iha =>
    intro c h
    cases c <;> simp [T.beq] at h
    obtain ⟨rfl, h2⟩ := h
    rw [iha h2]
  | fn a r iha ihr =>
    intro c h
    cases c <;> simp [T.beq] at h
    rw [iha h.1, ihr h.2]
  | nsl a iha => intro c h; cases c <;> simp [T.beq] at h; rw [iha h]
  | seq f a iha => intro c h; cases c <;> simp [T.beq] at h; rw [h.1, iha h.2]

theorem T.beq_self : ∀ (a : T), a.beq a = true := by
  intro a; induction a <;> simp_all [T.beq]

/-- A value of one type seen as one of an equal type. -/
def castT {a b : T} (h : a.beq b = true) (x : a.den) : b.den := (T.beq_eq h : a = b) ▸ x

theorem pf {a b : T} (h : a.beq b = true) : a.beq b = true := h

@[simp] theorem castT_self {a : T} (h : a.beq a = true) (x : a.den) : castT h x = x := rfl

/-- No slice in it, and no function: it lies in its own cells. -/
def T.flat : T → Bool
  | .int => true | .bool => true | .nil => true
  | .cons a b => a.flat && b.flat
  | .arr _ a => a.flat
  | _ => false

def T.dflt : (t : T) → t.den
  | .int => (0 : Int)
  | .bool => false
  | .nil => ()
  | .cons a b => (a.dflt, b.dflt)
  | .sl _ => []
  | .osl _ => []
  | .ref a => a.dflt
  | .arr n a => List.replicate n a.dflt
  | .fn _ r => (fun _ => False, fun _ => r.dflt)
  | .nsl _ => []
  | .seq _ _ => (False, [])

/-- Its zero value is a datum of ours. -/
def T.hasZero : T → Bool
  | .int => true | .bool => true | .nil => true
  | .cons a b => a.hasZero && b.hasZero
  | .sl _ => true
  | .arr _ a => a.hasZero
  | .fn _ _ => true
  | .nsl _ => true
  | .osl _ => false
  | .ref _ => false
  | .seq _ _ => false

def inI (x : Int) : Prop := -9223372036854775808 ≤ x ∧ x ≤ 9223372036854775807

/-- What is known of each datum that lies in memory: its numbers fit, its slices are not longer than memory. -/
def T.wf : (t : T) → t.den → Prop
  | .int, x => inI x
  | .bool, _ => True
  | .nil, _ => True
  | .cons a b, x => a.wf x.1 ∧ b.wf x.2
  | .sl a, xs => xs.length ≤ 140737488355328 ∧ ∀ x ∈ xs, a.wf x
  | .osl a, xs => xs.length ≤ 140737488355328 ∧ ∀ x ∈ xs, a.wf x
  | .ref a, x => a.wf x
  | .arr n a, xs => xs.length = n ∧ ∀ x ∈ xs, a.wf x
  | .fn _ _, _ => True
  | .nsl a, xs => xs.length ≤ 140737488355328 ∧ ∀ x ∈ xs, a.wf x
  | .seq _ _, _ => True

def mkV (t : T) (cs : List Value) : Value := if t.agg then .agg cs.toArray else cs.headD undef

def mkRes : List Value → Value
  | [v] => v
  | vs => .tuple vs.toArray

def cellsAt (w : World) (b off : Nat) (cs : List Value) : Prop := ∀ j v, cs[j]? = some v → w.cell? ⟨b, off + j, none⟩ = some v

def repL {α : Type} (R : α → List Value → Prop) : List α → List Value → Prop
  | [], cs => cs = []
  | x :: xs, cs => ∃ c1 c2, cs = c1 ++ c2 ∧ R x c1 ∧ repL R xs c2

/-- A row of cells. -/
def isC (w : World) (b : Nat) : Prop := ∃ c e p, w.heap[b]? = some (.cells c e p)

theorem isC.lt {w : World} {b : Nat} (h : isC w b) : b < w.heap.size := by
  obtain ⟨c, e, p, h⟩ := h
  exact (Array.getElem?_eq_some_iff.1 h).1

/-- The rows of cells in some blocks stay as they are. -/
def Keep (S : Nat → Prop) (w w' : World) : Prop := w.heap.size ≤ w'.heap.size ∧ ∀ b, isC w b → S b → w'.heap[b]? = w.heap[b]?

structure RP (α : Type) where
  c : World → (Nat → Prop) → α → List Value → Prop
  o : World → (Nat → Prop) → α → Value → List Nat → Prop
  v : World → (Nat → Prop) → α → List Value → List Nat → Prop

def repSl {α : Type} (R : α → List Value → Prop) (w : World) (S : Nat → Prop) (xs : List α) (v : Value) : Prop :=
  ∃ ao cap, v = .slice ao xs.length cap ∧ xs.length ≤ cap ∧ xs.length ≤ 140737488355328 ∧
    (xs = [] ∨ ∃ b off cs, ao = some ⟨b, off, none⟩ ∧ S b ∧ b < w.heap.size ∧ cellsAt w b off cs ∧ repL R xs cs)

/-- A slice whose array is the call's own: it may be written to, up to its capacity. -/
def repOwn {α : Type} (R : α → List Value → Prop) (size : Nat) (w : World) (S : Nat → Prop) (xs : List α) (v : Value) (ob : Option (Nat × Nat)) : Prop :=
  (v = .slice none 0 0 ∧ xs = [] ∧ ob = none) ∨
  ∃ b off cap cur e, ob = some (b, off) ∧ v = .slice (some ⟨b, off, none⟩) xs.length cap ∧ S b ∧ w.heap[b]? = some (.cells cur e (0, 0)) ∧ xs.length ≤ cap ∧
    (xs.length ≤ 140737488355328 ∧ cap ≤ 9223372036854775807) ∧ off + cap * size ≤ cur.size ∧ repL R xs ((cur.toList.drop off).take (xs.length * size))

def fnOK (P : Program) {α β : Type} (A : RP α) (R : RP β) (g : FuncId) (caps : List Value) (w : World) (S : Nat → Prop) (F : (α → Prop) × (α → β)) : Prop :=
  ∀ w', Keep S w w' → ∀ (S' : Nat → Prop) (x : α) (vs : List Value), A.v w' S' x vs [] → F.1 x →
    Calls P g (vs ++ caps).toArray w' fun e w'' => ∃ rs bs, e = .returned (mkRes rs) ∧ R.v w'' (fun b => w'.heap.size ≤ b ∧ b ∉ bs) (F.2 x) rs bs ∧ bs.Nodup ∧ (∀ b ∈ bs, w'.heap.size ≤ b) ∧ Below w'.heap.size w' w''

/-- What an iterator leaves as it is: all but some blocks, and what is new. -/
structure Grow (T : Nat → Prop) (w w' : World) : Prop where
  os : w'.os = w.os
  tape : w'.tape = w.tape
  output : w'.output = w.output
  size : w.heap.size ≤ w'.heap.size
  block : ∀ b, b < w.heap.size → ¬ T b → w'.heap[b]? = w.heap[b]?

/-- What is said of the world by the one who ranges: behind k elements; and where it has stopped. T: the blocks of the iterator's own; Z: those that it writes to no more. -/
structure JT where
  J : Nat → (Nat → Prop) → (Nat → Prop) → World → Prop
  Jx : (Nat → Prop) → (Nat → Prop) → World → Prop
  cl : ∀ k T Z T' Z' W W', J k T Z W → Grow T W W' → (∀ b, T' b → T b ∨ W.heap.size ≤ b) → (∀ b, Z' b → Z b ∨ T b ∨ W.heap.size ≤ b) → J k T' Z' W'
  clx : ∀ T Z T' Z' W W', Jx T Z W → Grow T W W' → (∀ b, T' b → T b ∨ W.heap.size ≤ b) → (∀ b, Z' b → Z b ∨ T b ∨ W.heap.size ≤ b) → Jx T' Z' W'

/-- What a call of yield gives. -/
def YieldOK (P : Program) (fr : Bool) {α : Type} (A : RP α) (S : Nat → Prop) (n0 l : Nat) (j : JT) (ys : List α) : Prop :=
  ∀ k T Z W1 vs y (S1 : Nat → Prop), ys[k]? = some y → j.J k T Z W1 → (∀ b, T b → n0 ≤ b) → (∀ b, Z b → n0 ≤ b ∧ ¬ T b) → A.v W1 S1 y vs [] → (∀ b, S1 b → Z b ∨ (fr = false ∧ S b)) →
    YieldAt Fence.wide 0 P l vs.toArray W1 fun e W2 => Keep (fun b => S b ∨ T b ∨ Z b) W1 W2 ∧
      ((e = .returned (.bool true) ∧ j.J (k + 1) (fun b => T b ∧ b < W1.heap.size) (fun b => Z b ∧ b < W1.heap.size) W2) ∨ (e = .returned (.bool false) ∧ j.Jx (fun b => T b ∧ b < W1.heap.size) (fun b => Z b ∧ b < W1.heap.size) W2))

/-- An iterator: it hands over the elements ys, one after another (fr: in memory of its own), until yield says no. -/
def SeqOK (P : Program) (fr : Bool) {α : Type} (A : RP α) (g : FuncId) (caps : List Value) (w : World) (S : Nat → Prop) (F : Prop × List α) : Prop :=
  F.1 → ∀ W, Keep S w W → ∀ (l : Nat) (j : JT), YieldOK P fr A (fun b => b < w.heap.size ∧ S b) W.heap.size l j F.2 → j.J 0 (fun _ => False) (fun _ => False) W →
    Calls P g (#[.func (.yield l) #[] #[]] ++ caps.toArray) W fun e W' => (∃ v, e = .returned v) ∧ ∃ T Z, (∀ b, T b → W.heap.size ≤ b) ∧ (∀ b, Z b → W.heap.size ≤ b) ∧ (j.J F.2.length T Z W' ∨ j.Jx T Z W')

/-- A function of the program that has a body. -/
def FunOK (P : Program) (g : FuncId) : Prop := ∃ fn, P.funcs[g]? = some fn ∧ (fn.name == "runtime.NumGoroutine") = false ∧ fn.body.isNone = false

def RP.plain {α : Type} (t : T) (c : World → (Nat → Prop) → α → List Value → Prop) : RP α :=
  { c, o := fun w S x v bs => bs = [] ∧ ∃ cs, v = mkV t cs ∧ c w S x cs, v := fun _ _ _ _ _ => False }

def reps (P : Program) : (t : T) → RP t.den
  | .int => .plain .int fun _ _ x cs => cs = [.int .i64 x] ∧ inI x
  | .bool => .plain .bool fun _ _ x cs => cs = [.bool x]
  | .nil => { RP.plain .nil (fun _ _ _ cs => cs = []) with v := fun _ _ _ vs bs => vs = [] ∧ bs = [] }
  | .cons a b => { RP.plain (.cons a b) (fun w S x cs => ∃ c1 c2, cs = c1 ++ c2 ∧ (reps P a).c w S x.1 c1 ∧ (reps P b).c w S x.2 c2) with
      v := fun w S x vs bs => ∃ v vs' b1 b2, vs = v :: vs' ∧ bs = b1 ++ b2 ∧ (reps P a).o w S x.1 v b1 ∧ (reps P b).v w S x.2 vs' b2 }
  | .sl a => .plain (.sl a) fun w S xs cs => ∃ v, cs = [v] ∧ repSl ((reps P a).c w S) w S xs v
  | .osl a => { c := fun _ _ _ _ => False, v := fun _ _ _ _ _ => False, o := fun w S xs v bs => ∃ ob, repOwn ((reps P a).c w S) a.csize w (fun _ => True) xs v ob ∧ bs = (ob.map (·.1)).toList }
  | .ref a => .plain (.ref a) fun w S x cs => ∃ b off ds, cs = [.pointer (some ⟨b, off, none⟩)] ∧ S b ∧ b < w.heap.size ∧ cellsAt w b off ds ∧ (reps P a).c w S x ds
  | .arr n a => .plain (.arr n a) fun w S xs cs => xs.length = n ∧ repL ((reps P a).c w S) xs cs
  | .fn a r => .plain (.fn a r) fun w S F cs => (cs = [.nilFunc] ∧ ∀ x, ¬ F.1 x) ∨ ∃ g caps, cs = [.func (.func g) #[] caps.toArray] ∧ FunOK P g ∧ fnOK P (reps P a) (reps P r) g caps w S F
  | .nsl a => .plain (.nsl a) fun w S xs cs => ∃ v, cs = [v] ∧ repSl ((reps P a).c w S) w S xs v ∧ (xs = [] → v = .slice none 0 0)
  | .seq fr a => .plain (.seq fr a) fun w S ys cs => ∃ g caps, cs = [.func (.func g) #[] caps.toArray] ∧ FunOK P g ∧ SeqOK P fr (reps P a) g caps w S ys

/-! ### Lists of data -/
theorem repL_len {α : Type} {R : α → List Value → Prop} {n : Nat} (h : ∀ x cs, R x cs → cs.length = n) : ∀ xs cs, repL R xs cs → cs.length = xs.length * n
  | [], cs, e => by simp [repL] at e; simp [e]
  | x :: xs, cs, ⟨c1, c2, e, h1, h2⟩ => by
    rw [e, List.length_append, h x c1 h1, repL_len h xs c2 h2, List.length_cons, Nat.add_mul, Nat.one_mul, Nat.add_comm]

theorem repL_mono {α : Type} {R R' : α → List Value → Prop} (h : ∀ x cs, R x cs → R' x cs) : ∀ xs cs, repL R xs cs → repL R' xs cs
  | [], _, e => e
  | x :: xs, _, ⟨c1, c2, e, h1, h2⟩ => ⟨c1, c2, e, h x c1 h1, repL_mono h xs c2 h2⟩

theorem repL_append {α : Type} {R : α → List Value → Prop} : ∀ xs ys c1 c2, repL R xs c1 → repL R ys c2 → repL R (xs ++ ys) (c1 ++ c2)
  | [], ys, c1, c2, e, h => by simp [repL] at e; simpa [e] using h
  | x :: xs, ys, _, c2, ⟨a1, a2, e, h1, h2⟩, h => ⟨a1, a2 ++ c2, by rw [e, List.append_assoc], h1, repL_append xs ys a2 c2 h2 h⟩

theorem repL_split {α : Type} {R : α → List Value → Prop} {n : Nat} (hn : ∀ x cs, R x cs → cs.length = n) :
    ∀ xs ys cs, repL R (xs ++ ys) cs → repL R xs (cs.take (xs.length * n)) ∧ repL R ys (cs.drop (xs.length * n))
  | [], ys, cs, h => by simpa [repL] using h
  | x :: xs, ys, _, ⟨c1, c2, e, h1, h2⟩ => by
    obtain ⟨i1, i2⟩ := repL_split hn xs ys c2 h2
    have hl := hn x c1 h1
    have e2 : (x :: xs).length * n = c1.length + xs.length * n := by rw [List.length_cons, Nat.add_mul, Nat.one_mul, hl, Nat.add_comm]
    subst e
    rw [e2]
    refine ⟨⟨c1, c2.take (xs.length * n), ?_, h1, i1⟩, ?_⟩
    · rw [List.take_append, List.take_of_length_le (by omega)]; congr 2; omega
    · rw [List.drop_append, List.drop_of_length_le (by omega), List.nil_append]
      have : c1.length + xs.length * n - c1.length = xs.length * n := by omega
      rw [this]; exact i2

theorem repL_get {α : Type} {R : α → List Value → Prop} {n : Nat} (hn : ∀ x cs, R x cs → cs.length = n) (xs : List α) (cs : List Value) (h : repL R xs cs) (i : Nat) (x : α) (hx : xs[i]? = some x) :
    R x ((cs.drop (i * n)).take n) := by
  have hi : i < xs.length := by
    rcases Nat.lt_or_ge i xs.length with h' | h'
    · exact h'
    · simp [List.getElem?_eq_none h'] at hx
  have e : xs = xs.take i ++ x :: xs.drop (i + 1) := by
    have h1 : xs[i] = x := by simpa [List.getElem?_eq_getElem hi] using hx
    rw [← h1, List.getElem_cons_drop, List.take_append_drop]
  rw [e] at h
  obtain ⟨_, h2⟩ := repL_split hn _ _ _ h
  have hl : (xs.take i).length = i := by simp; omega
  rw [hl] at h2
  obtain ⟨c1, c2, e2, h3, _⟩ := h2
  rw [e2, List.take_append, List.take_of_length_le (by rw [hn x c1 h3]; exact Nat.le_refl _)]
  have := hn x c1 h3
  simpa [this] using h3

theorem repL_set {α : Type} {R : α → List Value → Prop} {n : Nat} (hn : ∀ x cs, R x cs → cs.length = n) (xs : List α) (cs : List Value) (h : repL R xs cs) (i : Nat) (hi : i < xs.length) (y : α) (cy : List Value) (hy : R y cy) :
    repL R (xs.set i y) (cs.take (i * n) ++ cy ++ cs.drop (i * n + n)) := by
  have e : xs = xs.take i ++ xs[i] :: xs.drop (i + 1) := by rw [List.getElem_cons_drop, List.take_append_drop]
  have h' := h
  rw [e] at h'
  obtain ⟨h1, h2⟩ := repL_split hn _ _ _ h'
  have hl : (xs.take i).length = i := by simp; omega
  rw [hl] at h1 h2
  obtain ⟨c1, c2, e2, h3, h4⟩ := h2
  have hc1 := hn _ c1 h3
  have e3 : xs.set i y = xs.take i ++ y :: xs.drop (i + 1) := List.set_eq_take_append_cons_drop .. |>.trans (by rw [if_pos hi])
  rw [e3, List.append_assoc]
  refine repL_append _ _ _ _ h1 ⟨cy, c2, ?_, hy, h4⟩
  congr 1
  rw [← List.drop_drop, e2, List.drop_append, List.drop_of_length_le (by omega), List.nil_append, hc1]
  simp

theorem repL_replicate {α : Type} {R : α → List Value → Prop} {x : α} {c : List Value} (h : R x c) : ∀ n, repL R (List.replicate n x) (List.replicate n c).flatten
  | 0 => rfl
  | n + 1 => ⟨c, (List.replicate n c).flatten, by simp [List.replicate_succ], h, repL_replicate h n⟩

/-! ### What keeps a datum -/
theorem Keep.refl (S : Nat → Prop) (w : World) : Keep S w w := ⟨Nat.le_refl _, fun _ _ _ => rfl⟩

theorem isC.keep {w w' : World} {b : Nat} (h : isC w b) (e : w'.heap[b]? = w.heap[b]?) : isC w' b := by
  obtain ⟨c, e1, p, h⟩ := h
  exact ⟨c, e1, p, e.trans h⟩

theorem Keep.trans {S S' : Nat → Prop} {w w' w'' : World} (h : Keep S w w') (h' : Keep S' w' w'') (hs : ∀ b, b < w.heap.size → S b → S' b) : Keep S w w'' :=
  ⟨Nat.le_trans h.1 h'.1, fun b hb hS => (h'.2 b (hb.keep (h.2 b hb hS)) (hs b hb.lt hS)).trans (h.2 b hb hS)⟩

theorem Keep.of_below {S : Nat → Prop} {w w' : World} (h : Below w.heap.size w w') : Keep S w w' := ⟨h.size, fun b hb _ => h.block b hb.lt⟩

theorem isC_of_cell {w : World} {b o : Nat} {v : Value} (h : w.cell? ⟨b, o, none⟩ = some v) : isC w b := by
  simp only [World.cell?] at h
  split at h
  · rename_i c e p hb; exact ⟨c, e, p, hb⟩
  · cases h

theorem cellsAt.keep {w w' : World} {b off : Nat} {cs : List Value} (h : cellsAt w b off cs) (e : isC w b → w'.heap[b]? = w.heap[b]?) : cellsAt w' b off cs := fun j v hv =>
  (World.cell?_of_block (w := w) (a := ⟨b, off + j, none⟩) (e (isC_of_cell (h j v hv)))).trans (h j v hv)

theorem repSl.keep {α : Type} {R R' : α → List Value → Prop} {w w' : World} {S S' : Nat → Prop} {xs : List α} {v : Value} (h : repSl R w S xs v) (hk : Keep S w w') (hs : ∀ b, b < w.heap.size → S b → S' b) (hR : ∀ x cs, R x cs → R' x cs) :
    repSl R' w' S' xs v := by
  obtain ⟨ao, cap, e, h1, h2, h3⟩ := h
  refine ⟨ao, cap, e, h1, h2, ?_⟩
  rcases h3 with h3 | ⟨b, off, cs, h4, h5, h6, h7, h8⟩
  · exact .inl h3
  · exact .inr ⟨b, off, cs, h4, hs b h6 h5, Nat.lt_of_lt_of_le h6 hk.1, h7.keep (fun hc => hk.2 b hc h5), repL_mono hR xs cs h8⟩

theorem repOwn.keep {α : Type} {R R' : α → List Value → Prop} {size : Nat} {w w' : World} {S S' : Nat → Prop} {xs : List α} {v : Value} {ob : Option (Nat × Nat)} (h : repOwn R size w S xs v ob) (hk : Keep S w w') (hs : ∀ b, b < w.heap.size → S b → S' b) (hR : ∀ x cs, R x cs → R' x cs) :
    repOwn R' size w' S' xs v ob := by
  rcases h with h | ⟨b, off, cap, cur, e, h1, h2, h3, h4, h5, h6, h7, h8⟩
  · exact .inl h
  · have hb : b < w.heap.size := (Array.getElem?_eq_some_iff.1 h4).1
    exact .inr ⟨b, off, cap, cur, e, h1, h2, hs b hb h3, (hk.2 b ⟨_, _, _, h4⟩ h3).trans h4, h5, h6, h7, repL_mono hR _ _ h8⟩

theorem YieldOK.mono {P : Program} {fr : Bool} {α : Type} {A : RP α} {S S' : Nat → Prop} {n0 l : Nat} {j : JT} {ys : List α} (h : YieldOK P fr A S' n0 l j ys) (hs : ∀ b, S b → S' b) : YieldOK P fr A S n0 l j ys := by
  intro k T Z W1 vs y S1 h1 h2 h3 h4 h5 h6
  obtain ⟨fn, tmps, assign, body, e1, e2⟩ := h k T Z W1 vs y S1 h1 h2 h3 h4 h5 fun b hb => (h6 b hb).imp id fun h => ⟨h.1, hs b h.2⟩
  refine ⟨fn, tmps, assign, body, e1, e2.mono ?_⟩
  rintro e W2 ⟨a1, a2⟩
  exact ⟨⟨a1.1, fun b hb hS => a1.2 b hb (hS.imp (hs b) id)⟩, a2⟩

theorem SeqOK.keep {P : Program} {fr : Bool} {α : Type} {A : RP α} {g : FuncId} {caps : List Value} {w w' : World} {S S' : Nat → Prop} {ys : Prop × List α} (h : SeqOK P fr A g caps w S ys) (hk : Keep S w w') (hs : ∀ b, b < w.heap.size → S b → S' b) :
    SeqOK P fr A g caps w' S' ys := fun hp W hk' l j hy => h hp W (hk.trans hk' hs) l j (hy.mono fun b hb => ⟨Nat.lt_of_lt_of_le hb.1 hk.1, hs b hb.1 hb.2⟩)

theorem fnOK.keep {P : Program} {α β : Type} {A : RP α} {R : RP β} {g : FuncId} {caps : List Value} {w w' : World} {S S' : Nat → Prop} {F : (α → Prop) × (α → β)} (h : fnOK P A R g caps w S F) (hk : Keep S w w') (hs : ∀ b, b < w.heap.size → S b → S' b) :
    fnOK P A R g caps w' S' F := fun w'' hk' => h w'' (hk.trans hk' hs)

theorem c_keep {P : Program} : ∀ (t : T) {w w' : World} {S S' : Nat → Prop} {x : t.den} {cs : List Value}, (reps P t).c w S x cs → Keep S w w' → (∀ b, b < w.heap.size → S b → S' b) → (reps P t).c w' S' x cs
  | .int, _, _, _, _, _, _, h, _, _ => h
  | .bool, _, _, _, _, _, _, h, _, _ => h
  | .nil, _, _, _, _, _, _, h, _, _ => h
  | .cons a b, _, _, _, _, _, _, ⟨c1, c2, e, h1, h2⟩, hk, hs => ⟨c1, c2, e, c_keep a h1 hk hs, c_keep b h2 hk hs⟩
  | .sl a, _, _, _, _, _, _, ⟨v, e, h⟩, hk, hs => ⟨v, e, h.keep hk hs fun _ _ h => c_keep a h hk hs⟩
  | .osl _, _, _, _, _, _, _, h, _, _ => h.elim
  | .ref a, _, _, _, _, _, _, ⟨b, off, ds, e, h1, h2, h3, h4⟩, hk, hs => ⟨b, off, ds, e, hs b h2 h1, Nat.lt_of_lt_of_le h2 hk.1, h3.keep (fun hc => hk.2 b hc h1), c_keep a h4 hk hs⟩
  | .arr _ a, _, _, _, _, _, _, ⟨e, h⟩, hk, hs => ⟨e, repL_mono (fun _ _ h => c_keep a h hk hs) _ _ h⟩
  | .fn _ _, _, _, _, _, _, _, .inl h, _, _ => .inl h
  | .fn _ _, _, _, _, _, _, _, .inr ⟨g, caps, e, hf, h⟩, hk, hs => .inr ⟨g, caps, e, hf, h.keep hk hs⟩
  | .nsl a, _, _, _, _, _, _, ⟨v, e, h, h0⟩, hk, hs => ⟨v, e, h.keep hk hs fun _ _ h => c_keep a h hk hs, h0⟩
  | .seq _ _, _, _, _, _, _, _, ⟨g, caps, e, hf, h⟩, hk, hs => ⟨g, caps, e, hf, h.keep hk hs⟩

theorem c_len {P : Program} : ∀ (t : T) {w : World} {S : Nat → Prop} {x : t.den} {cs : List Value}, (reps P t).c w S x cs → cs.length = t.csize
  | .int, _, _, _, _, h => by rw [h.1]; rfl
  | .bool, _, _, _, cs, h => by have e : cs = [.bool _] := h; rw [e]; rfl
  | .nil, _, _, _, cs, h => by have e : cs = [] := h; rw [e]; rfl
  | .cons a b, _, _, _, _, ⟨c1, c2, e, h1, h2⟩ => by rw [e, List.length_append, c_len a h1, c_len b h2]; rfl
  | .sl _, _, _, _, _, ⟨v, e, _⟩ => by rw [e]; rfl
  | .osl _, _, _, _, _, h => h.elim
  | .ref _, _, _, _, _, ⟨_, _, _, e, _⟩ => by rw [e]; rfl
  | .arr n a, _, _, _, _, ⟨e, h⟩ => by rw [repL_len (fun x cs h => c_len a h) _ _ h, e]; rfl
  | .fn _ _, _, _, _, _, .inl ⟨e, _⟩ => by rw [e]; rfl
  | .fn _ _, _, _, _, _, .inr ⟨g, caps, e, _⟩ => by rw [e]; rfl
  | .nsl _, _, _, _, _, ⟨v, e, _⟩ => by rw [e]; rfl
  | .seq _ _, _, _, _, _, ⟨_, _, e, _⟩ => by rw [e]; rfl

theorem repL_all {α : Type} {R : α → List Value → Prop} {p : α → Prop} (h : ∀ x cs, R x cs → p x) : ∀ xs cs, repL R xs cs → ∀ x ∈ xs, p x
  | [], _, _, x, hx => by simp at hx
  | y :: ys, _, ⟨c1, c2, _, h1, h2⟩, x, hx => by
    rcases List.mem_cons.1 hx with rfl | hx
    · exact h _ _ h1
    · exact repL_all h ys c2 h2 x hx

theorem c_wf {P : Program} : ∀ (t : T) {w : World} {S : Nat → Prop} {x : t.den} {cs : List Value}, (reps P t).c w S x cs → t.wf x
  | .int, _, _, _, _, h => h.2
  | .bool, _, _, _, _, _ => trivial
  | .nil, _, _, _, _, _ => trivial
  | .cons a b, _, _, _, _, ⟨c1, c2, e, h1, h2⟩ => ⟨c_wf a h1, c_wf b h2⟩
  | .sl a, _, _, xs, _, ⟨v, e, ao, cap, _, _, hl, h⟩ => ⟨hl, by
      rcases h with rfl | ⟨b, off, cs, _, _, _, _, h⟩
      · intro x hx; simp at hx
      · exact repL_all (fun x cs h => c_wf a h) _ _ h⟩
  | .ref a, _, _, _, _, ⟨_, _, _, _, _, _, _, h⟩ => c_wf a h
  | .osl _, _, _, _, _, h => h.elim
  | .arr n a, _, _, _, _, ⟨e, h⟩ => ⟨e, repL_all (fun x cs h => c_wf a h) _ _ h⟩
  | .fn _ _, _, _, _, _, _ => trivial
  | .nsl a, _, _, xs, _, ⟨v, e, ⟨ao, cap, _, _, hl, h⟩, _⟩ => ⟨hl, by
      rcases h with rfl | ⟨b, off, cs, _, _, _, _, h⟩
      · intro x hx; simp at hx
      · exact repL_all (fun x cs h => c_wf a h) _ _ h⟩
  | .seq _ _, _, _, _, _, _ => trivial

theorem c_one {P : Program} : ∀ (t : T) {w : World} {S : Nat → Prop} {x : t.den} {cs : List Value}, (reps P t).c w S x cs → ∀ v ∈ cs, v.oneCell' = true
  | .int, _, _, _, cs, h, v, hv => by rw [h.1] at hv; simp at hv; subst hv; rfl
  | .bool, _, _, _, cs, h, v, hv => by have e : cs = [.bool _] := h; rw [e] at hv; simp at hv; subst hv; rfl
  | .nil, _, _, _, cs, h, v, hv => by have e : cs = [] := h; rw [e] at hv; simp at hv
  | .cons a b, _, _, _, _, ⟨c1, c2, e, h1, h2⟩, v, hv => by
    rw [e] at hv
    rcases List.mem_append.1 hv with hv | hv
    · exact c_one a h1 v hv
    · exact c_one b h2 v hv
  | .sl _, _, _, _, _, ⟨v, e, ao, cap, e2, _⟩, u, hu => by rw [e] at hu; simp at hu; subst hu; rw [e2]; rfl
  | .osl _, _, _, _, _, h, _, _ => h.elim
  | .ref _, _, _, _, _, ⟨_, _, _, e, _⟩, u, hu => by rw [e] at hu; simp at hu; subst hu; rfl
  | .arr n a, w, S, _, _, ⟨e, h⟩, v, hv => by
    have : ∀ xs cs, repL ((reps P a).c w S) xs cs → ∀ v ∈ cs, v.oneCell' = true := by
      intro xs
      induction xs with
      | nil => intro cs e v hv; simp [repL] at e; simp [e] at hv
      | cons x xs ih =>
        rintro _ ⟨c1, c2, e, h1, h2⟩ v hv
        rw [e] at hv
        rcases List.mem_append.1 hv with hv | hv
        · exact c_one a h1 v hv
        · exact ih c2 h2 v hv
    exact this _ _ h v hv
  | .fn _ _, _, _, _, _, .inl ⟨e, _⟩, u, hu => by rw [e] at hu; simp at hu; subst hu; rfl
  | .fn _ _, _, _, _, _, .inr ⟨g, caps, e, _⟩, u, hu => by rw [e] at hu; simp at hu; subst hu; rfl
  | .nsl _, _, _, _, _, ⟨v, e, ⟨ao, cap, e2, _⟩, _⟩, u, hu => by rw [e] at hu; simp at hu; subst hu; rw [e2]; rfl
  | .seq _ _, _, _, _, _, ⟨g, caps, e, _⟩, u, hu => by rw [e] at hu; simp at hu; subst hu; rfl

/-- Flat data lie nowhere but in their own cells. -/
theorem c_flat {P : Program} : ∀ (t : T), t.flat = true → ∀ {w w' : World} {S S' : Nat → Prop} {x : t.den} {cs : List Value}, (reps P t).c w S x cs → (reps P t).c w' S' x cs
  | .int, _, _, _, _, _, _, _, h => h
  | .bool, _, _, _, _, _, _, _, h => h
  | .nil, _, _, _, _, _, _, _, h => h
  | .cons a b, hf, _, _, _, _, _, _, ⟨c1, c2, e, h1, h2⟩ => by
    simp [T.flat] at hf
    exact ⟨c1, c2, e, c_flat a hf.1 h1, c_flat b hf.2 h2⟩
  | .sl _, hf, _, _, _, _, _, _, _ => by simp [T.flat] at hf
  | .osl _, hf, _, _, _, _, _, _, _ => by simp [T.flat] at hf
  | .ref _, hf, _, _, _, _, _, _, _ => by simp [T.flat] at hf
  | .arr _ a, hf, _, _, _, _, _, _, ⟨e, h⟩ => ⟨e, repL_mono (fun _ _ h => c_flat a (by simpa [T.flat] using hf) h) _ _ h⟩
  | .fn _ _, hf, _, _, _, _, _, _, _ => by simp [T.flat] at hf
  | .nsl _, hf, _, _, _, _, _, _, _ => by simp [T.flat] at hf
  | .seq _ _, hf, _, _, _, _, _, _, _ => by simp [T.flat] at hf

theorem o_keep {P : Program} (t : T) {w w' : World} {S S' : Nat → Prop} {x : t.den} {v : Value} (h : (reps P t).o w S x v []) (hk : Keep S w w') (hs : ∀ b, b < w.heap.size → S b → S' b) : (reps P t).o w' S' x v [] := by
  cases t
  case osl a =>
    obtain ⟨ob, h, e⟩ := h
    cases ob with
    | some b => simp at e
    | none =>
      refine ⟨none, ?_, rfl⟩
      rcases h with h | ⟨b, off, cap, cur, e, h1, _⟩
      · exact .inl h
      · cases h1
  case int => obtain ⟨e, cs, e2, h⟩ := h; exact ⟨e, cs, e2, c_keep (P := P) .int h hk hs⟩
  case bool => obtain ⟨e, cs, e2, h⟩ := h; exact ⟨e, cs, e2, c_keep (P := P) .bool h hk hs⟩
  case nil => obtain ⟨e, cs, e2, h⟩ := h; exact ⟨e, cs, e2, c_keep (P := P) (x := x) .nil h hk hs⟩
  case cons a b => obtain ⟨e, cs, e2, h⟩ := h; exact ⟨e, cs, e2, c_keep (.cons a b) h hk hs⟩
  case sl a => obtain ⟨e, cs, e2, h⟩ := h; exact ⟨e, cs, e2, c_keep (.sl a) h hk hs⟩
  case ref a => obtain ⟨e, cs, e2, h⟩ := h; exact ⟨e, cs, e2, c_keep (.ref a) h hk hs⟩
  case arr n a => obtain ⟨e, cs, e2, h⟩ := h; exact ⟨e, cs, e2, c_keep (.arr n a) h hk hs⟩
  case fn a r => obtain ⟨e, cs, e2, h⟩ := h; exact ⟨e, cs, e2, c_keep (.fn a r) h hk hs⟩
  case nsl a => obtain ⟨e, cs, e2, h⟩ := h; exact ⟨e, cs, e2, c_keep (.nsl a) h hk hs⟩
  case seq fr a => obtain ⟨e, cs, e2, h⟩ := h; exact ⟨e, cs, e2, c_keep (.seq fr a) h hk hs⟩

/-- Arguments: no own slice among them. -/
theorem v_keep {P : Program} : ∀ (t : T) {w w' : World} {S S' : Nat → Prop} {x : t.den} {vs : List Value}, (reps P t).v w S x vs [] → Keep S w w' → (∀ b, b < w.heap.size → S b → S' b) → (reps P t).v w' S' x vs []
  | .nil, _, _, _, _, _, _, h, _, _ => h
  | .cons a b, _, _, _, _, _, _, ⟨v, vs', b1, b2, e, e2, h1, h2⟩, hk, hs => by
    obtain ⟨rfl, rfl⟩ := List.append_eq_nil_iff.1 e2.symm
    exact ⟨v, vs', [], [], e, rfl, o_keep a h1 hk hs, v_keep b h2 hk hs⟩
  | .int, _, _, _, _, _, _, h, _, _ => h.elim
  | .bool, _, _, _, _, _, _, h, _, _ => h.elim
  | .sl _, _, _, _, _, _, _, h, _, _ => h.elim
  | .ref _, _, _, _, _, _, _, h, _, _ => h.elim
  | .osl _, _, _, _, _, _, _, h, _, _ => h.elim
  | .arr _ _, _, _, _, _, _, _, h, _, _ => h.elim
  | .fn _ _, _, _, _, _, _, _, h, _, _ => h.elim
  | .nsl _, _, _, _, _, _, _, h, _, _ => h.elim
  | .seq _ _, _, _, _, _, _, _, h, _, _ => h.elim

end Go.Tk
