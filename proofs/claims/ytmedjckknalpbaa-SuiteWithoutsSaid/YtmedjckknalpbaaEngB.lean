/- The engine, part B: places inside a datum; abstract values, abstract memory, and what they say of a world. No conditions. -/
import Derived.Test.YtmedjckknalpbaaEngA
namespace Go.Tk
open Go Go.RowKit

inductive Stp where
  | f (i : Nat)
  | i (n : Nat)

def T.get : (t : T) → t.den → List Stp → Option (Σ t : T, t.den)
  | .cons a b, x, .f i :: p => match i with
    | 0 => a.get x.1 p
    | i + 1 => b.get x.2 (.f i :: p)
  | .arr _ a, xs, .i n :: p => a.get (xs.getD n a.dflt) p
  | t, x, [] => some ⟨t, x⟩
  | _, _, _ => none

def T.put : (t : T) → t.den → List Stp → (s : T) → s.den → Option t.den
  | .cons a b, x, .f i :: p, s, y => match i with
    | 0 => (a.put x.1 p s y).map fun z => (z, x.2)
    | i + 1 => (b.put x.2 (.f i :: p) s y).map fun z => (x.1, z)
  | .arr _ a, xs, .i n :: p, s, y => (a.put (xs.getD n a.dflt) p s y).map fun z => xs.set n z
  | t, _, [], s, y => if h : s.beq t = true then some (castT (pf h) y) else none
  | _, _, _, _, _ => none

def T.off : (t : T) → List Stp → Option Nat
  | .cons a b, .f i :: p => match i with
    | 0 => a.off p
    | i + 1 => (b.off (.f i :: p)).map (a.csize + ·)
  | .arr _ a, .i n :: p => (a.off p).map (n * a.csize + ·)
  | _, [] => some 0
  | _, _ => none

def T.valid : (t : T) → List Stp → Prop
  | .cons a b, .f i :: p => match i with
    | 0 => a.valid p
    | i + 1 => b.valid (.f i :: p)
  | .arr n a, .i k :: p => k < n ∧ a.valid p
  | _, [] => True
  | _, _ => False

theorem getD_of_lt {α : Type} {xs : List α} {n : Nat} {d : α} (h : n < xs.length) : xs[n]? = some (xs.getD n d) := by
  simp [List.getD_eq_getElem?_getD, h]

/-- What is read at a place of a datum lies in the cells there. -/
theorem get_c {P : Program} : ∀ (t : T) (x : t.den) (p : List Stp) (s : T) (y : s.den) (o : Nat) {w : World} {S : Nat → Prop} {cs : List Value}, t.get x p = some ⟨s, y⟩ → t.off p = some o → t.valid p → (reps P t).c w S x cs →
    (reps P s).c w S y ((cs.drop o).take s.csize) ∧ o + s.csize ≤ cs.length := by
  intro t
  induction t with
  | cons a b iha ihb =>
    intro x p s y o w S cs hg ho hv hc
    obtain ⟨c1, c2, e, h1, h2⟩ := hc
    have l1 := c_len a h1
    cases p with
    | nil =>
      simp [T.get] at hg; obtain ⟨rfl, hg⟩ := hg; cases hg
      simp [T.off] at ho; subst ho
      have hl := c_len (.cons a b) (show (reps P (.cons a b)).c w S x cs from ⟨c1, c2, e, h1, h2⟩)
      rw [List.drop_zero, List.take_of_length_le (by omega)]
      exact ⟨⟨c1, c2, e, h1, h2⟩, by omega⟩
    | cons st p =>
      cases st with
      | i n => simp [T.get] at hg
      | f i =>
        cases i with
        | zero =>
          obtain ⟨r1, r2⟩ := iha x.1 p s y o hg ho hv h1
          subst e
          refine ⟨?_, by rw [List.length_append]; omega⟩
          rw [List.drop_append, show o - c1.length = 0 by omega, List.drop_zero, List.take_append, show s.csize - (c1.drop o).length = 0 by rw [List.length_drop]; omega]
          simpa using r1
        | succ i =>
          simp only [T.off, Option.map_eq_some_iff] at ho
          obtain ⟨o', ho', rfl⟩ := ho
          obtain ⟨r1, r2⟩ := ihb x.2 (.f i :: p) s y o' hg ho' hv h2
          subst e
          refine ⟨?_, by rw [List.length_append]; omega⟩
          rw [List.drop_append, List.drop_of_length_le (by omega), List.nil_append, show a.csize + o' - c1.length = o' by omega]
          exact r1
  | arr n a iha =>
    intro x p s y o w S cs hg ho hv hc
    cases p with
    | nil =>
      simp [T.get] at hg; obtain ⟨rfl, hg⟩ := hg; cases hg
      simp [T.off] at ho; subst ho
      have hl := c_len (.arr n a) hc
      rw [List.drop_zero, List.take_of_length_le (by omega)]
      exact ⟨hc, by omega⟩
    | cons st p =>
      cases st with
      | f i => simp [T.get] at hg
      | i k =>
        obtain ⟨hn, hc⟩ := hc
        obtain ⟨hk, hv⟩ := hv
        rw [← hn] at hk
        simp only [T.off, Option.map_eq_some_iff] at ho
        obtain ⟨o', ho', rfl⟩ := ho
        have hlen := repL_len (fun x cs h => c_len (P := P) a h) _ _ hc
        have he := repL_get (fun x cs h => c_len (P := P) a h) _ _ hc k _ (getD_of_lt (d := a.dflt) hk)
        obtain ⟨r1, r2⟩ := iha _ p s y o' hg ho' hv he
        have hmul : k * a.csize + a.csize ≤ x.length * a.csize := by
          have : (k + 1) * a.csize ≤ x.length * a.csize := Nat.mul_le_mul_right _ hk
          rwa [Nat.add_mul, Nat.one_mul] at this
        rw [List.length_take, List.length_drop] at r2
        refine ⟨?_, by omega⟩
        rw [List.drop_take, List.drop_drop, List.take_take] at r1
        rwa [Nat.min_eq_left (by omega)] at r1
  | int => exact prim .int (fun p => by cases p <;> simp [T.get])
  | bool => exact prim .bool (fun p => by cases p <;> simp [T.get])
  | nil => exact prim .nil (fun p => by cases p <;> simp [T.get])
  | sl a _ => exact prim (.sl a) (fun p => by cases p <;> simp [T.get])
  | osl a _ => exact prim (.osl a) (fun p => by cases p <;> simp [T.get])
  | ref a _ => exact prim (.ref a) (fun p => by cases p <;> simp [T.get])
  | fn a r _ _ => exact prim (.fn a r) (fun p => by cases p <;> simp [T.get])
  | nsl a _ => exact prim (.nsl a) (fun p => by cases p <;> simp [T.get])
  | seq fr a _ => exact prim (.seq fr a) (fun p => by cases p <;> simp [T.get])
where
  prim (t : T) (hp : ∀ p x, t.get x p = match p with | [] => some ⟨t, x⟩ | _ => none) (x : t.den) (p : List Stp) (s : T) (y : s.den) (o : Nat) {w : World} {S : Nat → Prop} {cs : List Value} (hg : t.get x p = some ⟨s, y⟩) (ho : t.off p = some o) (_hv : t.valid p) (hc : (reps P t).c w S x cs) :
      (reps P s).c w S y ((cs.drop o).take s.csize) ∧ o + s.csize ≤ cs.length := by
    rw [hp] at hg
    cases p with
    | cons _ _ => simp at hg
    | nil =>
      simp at hg
      obtain ⟨rfl, hg⟩ := hg
      cases hg
      have ho : o = 0 := by cases t <;> simp [T.off] at ho <;> omega
      subst ho
      have hl := c_len t hc
      rw [List.drop_zero, List.take_of_length_le (by omega)]
      exact ⟨hc, by omega⟩

theorem splice_left (c1 c2 cy : List Value) (o : Nat) (h : o + cy.length ≤ c1.length) : (c1 ++ c2).take o ++ cy ++ (c1 ++ c2).drop (o + cy.length) = (c1.take o ++ cy ++ c1.drop (o + cy.length)) ++ c2 := by
  rw [List.take_append, List.drop_append, show o - c1.length = 0 by omega, show o + cy.length - c1.length = 0 by omega]
  simp

theorem splice_right (c1 c2 cy : List Value) (o : Nat) : (c1 ++ c2).take (c1.length + o) ++ cy ++ (c1 ++ c2).drop (c1.length + o + cy.length) = c1 ++ (c2.take o ++ cy ++ c2.drop (o + cy.length)) := by
  rw [List.take_append, List.drop_append, List.take_of_length_le (by omega), List.drop_of_length_le (by omega)]
  simp [show c1.length + o + cy.length - c1.length = o + cy.length by omega]

theorem splice_in (cs cy : List Value) (A n o : Nat) (h : o + cy.length ≤ n) : cs.take A ++ (((cs.drop A).take n).take o ++ cy ++ ((cs.drop A).take n).drop (o + cy.length)) ++ cs.drop (A + n) = cs.take (A + o) ++ cy ++ cs.drop (A + o + cy.length) := by
  have e : ((cs.drop A).take n).drop (o + cy.length) ++ cs.drop (A + n) = cs.drop (A + o + cy.length) := by
    rw [List.drop_take, show A + n = A + (o + cy.length) + (n - (o + cy.length)) by omega, show A + o + cy.length = A + (o + cy.length) by omega, ← List.drop_drop (l := cs) (i := n - (o + cy.length)), ← List.drop_drop (l := cs) (i := o + cy.length), List.take_append_drop]
  rw [List.take_take, Nat.min_eq_left (by omega), List.take_add, ← e]
  simp only [List.append_assoc]

/-- What is written at a place of a datum: the cells there are the new ones. -/
theorem put_c {P : Program} : ∀ (t : T) (x : t.den) (p : List Stp) (s : T) (y : s.den) (o : Nat) (x' : t.den) {w : World} {S : Nat → Prop} {cs cy : List Value}, t.put x p s y = some x' → t.off p = some o → t.valid p → (reps P t).c w S x cs → (reps P s).c w S y cy →
    (reps P t).c w S x' (cs.take o ++ cy ++ cs.drop (o + cy.length)) ∧ o + cy.length ≤ cs.length := by
  intro t
  have whole : ∀ (t : T) (x : t.den) (s : T) (y : s.den) (o : Nat) (x' : t.den) {w : World} {S : Nat → Prop} {cs cy : List Value}, (if h : s.beq t = true then some (castT (pf h) y) else none) = some x' → o = 0 → (reps P t).c w S x cs → (reps P s).c w S y cy →
      (reps P t).c w S x' (cs.take o ++ cy ++ cs.drop (o + cy.length)) ∧ o + cy.length ≤ cs.length := by
    intro t x s y o x' w S cs cy hp ho hc hy
    split at hp
    · rename_i hb
      obtain rfl := T.beq_eq hb
      simp at hp
      subst hp; subst ho
      have l1 := c_len _ hc
      have l2 := c_len _ hy
      rw [List.take_zero, List.nil_append, List.drop_of_length_le (by omega), List.append_nil]
      exact ⟨hy, by omega⟩
    · cases hp
  induction t with
  | cons a b iha ihb =>
    intro x p s y o x' w S cs cy hp ho hv hc hy
    cases p with
    | nil => exact whole (.cons a b) x s y o x' hp (by simpa [T.off] using ho.symm) hc hy
    | cons st p =>
      obtain ⟨c1, c2, e, h1, h2⟩ := hc
      have l1 := c_len a h1
      cases st with
      | i n => simp [T.put] at hp
      | f i =>
        cases i with
        | zero =>
          simp only [T.put, Option.map_eq_some_iff] at hp
          obtain ⟨z, hz, rfl⟩ := hp
          obtain ⟨r1, r2⟩ := iha x.1 p s y o z hz ho hv h1 hy
          subst e
          exact ⟨⟨_, c2, splice_left c1 c2 cy o (by omega), r1, h2⟩, by rw [List.length_append]; omega⟩
        | succ i =>
          simp only [T.put, Option.map_eq_some_iff] at hp
          obtain ⟨z, hz, rfl⟩ := hp
          simp only [T.off, Option.map_eq_some_iff] at ho
          obtain ⟨o', ho', rfl⟩ := ho
          obtain ⟨r1, r2⟩ := ihb x.2 (.f i :: p) s y o' z hz ho' hv h2 hy
          subst e
          refine ⟨⟨c1, _, ?_, h1, r1⟩, by rw [List.length_append]; omega⟩
          rw [← l1]; exact splice_right c1 c2 cy o'
  | arr n a iha =>
    intro x p s y o x' w S cs cy hp ho hv hc hy
    cases p with
    | nil => exact whole (.arr n a) x s y o x' hp (by simpa [T.off] using ho.symm) hc hy
    | cons st p =>
      cases st with
      | f i => simp [T.put] at hp
      | i k =>
        obtain ⟨hn, hc⟩ := hc
        obtain ⟨hk, hv⟩ := hv
        rw [← hn] at hk
        simp only [T.put, Option.map_eq_some_iff] at hp
        obtain ⟨z, hz, rfl⟩ := hp
        simp only [T.off, Option.map_eq_some_iff] at ho
        obtain ⟨o', ho', rfl⟩ := ho
        have hlen := repL_len (fun x cs h => c_len (P := P) a h) _ _ hc
        have he := repL_get (fun x cs h => c_len (P := P) a h) _ _ hc k _ (getD_of_lt (d := a.dflt) hk)
        obtain ⟨r1, r2⟩ := iha _ p s y o' z hz ho' hv he hy
        have hmul : k * a.csize + a.csize ≤ x.length * a.csize := by
          have : (k + 1) * a.csize ≤ x.length * a.csize := Nat.mul_le_mul_right _ hk
          rwa [Nat.add_mul, Nat.one_mul] at this
        rw [List.length_take, List.length_drop] at r2
        have hs := repL_set (fun x cs h => c_len (P := P) a h) _ _ hc k hk _ _ r1
        refine ⟨⟨by simpa using hn, ?_⟩, by omega⟩
        have e : cs.take (k * a.csize) ++ (((cs.drop (k * a.csize)).take a.csize).take o' ++ cy ++ ((cs.drop (k * a.csize)).take a.csize).drop (o' + cy.length)) ++ cs.drop (k * a.csize + a.csize) =
            cs.take (k * a.csize + o') ++ cy ++ cs.drop (k * a.csize + o' + cy.length) := by
          exact splice_in cs cy (k * a.csize) a.csize o' (by omega)
        rwa [e] at hs
  | int => exact prim .int (fun p x s y => by cases p <;> simp [T.put]) whole
  | bool => exact prim .bool (fun p x s y => by cases p <;> simp [T.put]) whole
  | nil => exact prim .nil (fun p x s y => by cases p <;> simp [T.put]) whole
  | sl a _ => exact prim (.sl a) (fun p x s y => by cases p <;> simp [T.put]) whole
  | osl a _ => exact prim (.osl a) (fun p x s y => by cases p <;> simp [T.put]) whole
  | ref a _ => exact prim (.ref a) (fun p x s y => by cases p <;> simp [T.put]) whole
  | fn a r _ _ => exact prim (.fn a r) (fun p x s y => by cases p <;> simp [T.put]) whole
  | nsl a _ => exact prim (.nsl a) (fun p x s y => by cases p <;> simp [T.put]) whole
  | seq fr a _ => exact prim (.seq fr a) (fun p x s y => by cases p <;> simp [T.put]) whole
where
  prim (t : T) (hq : ∀ p x (s : T) y, t.put x p s y = match p with | [] => (if h : s.beq t = true then some (castT (pf h) y) else none) | _ => none)
      (whole : ∀ (t : T) (x : t.den) (s : T) (y : s.den) (o : Nat) (x' : t.den) {w : World} {S : Nat → Prop} {cs cy : List Value}, (if h : s.beq t = true then some (castT (pf h) y) else none) = some x' → o = 0 → (reps P t).c w S x cs → (reps P s).c w S y cy →
        (reps P t).c w S x' (cs.take o ++ cy ++ cs.drop (o + cy.length)) ∧ o + cy.length ≤ cs.length)
      (x : t.den) (p : List Stp) (s : T) (y : s.den) (o : Nat) (x' : t.den) {w : World} {S : Nat → Prop} {cs cy : List Value} (hp : t.put x p s y = some x') (ho : t.off p = some o) (_hv : t.valid p) (hc : (reps P t).c w S x cs) (hy : (reps P s).c w S y cy) :
      (reps P t).c w S x' (cs.take o ++ cy ++ cs.drop (o + cy.length)) ∧ o + cy.length ≤ cs.length := by
    rw [hq] at hp
    cases p with
    | cons _ _ => simp at hp
    | nil => exact whole t x s y o x' hp (by cases t <;> simp [T.off] at ho <;> omega) hc hy

end Go.Tk
