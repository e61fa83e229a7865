/- Plain facts: the box of a contract; spans from a point follow the run. No program in sight. -/
import Derived.Test.YtookhknbjofmkaaP6c
import Derived.Test.YtookhknbjofmkaaP2
set_option linter.unusedSimpArgs false
set_option linter.unusedVariables false
namespace Go.Tk
open Go Go.RowKit

theorem list4 {s : List Int} (h : s.length = 4) : ∃ a b c d, s = [a, b, c, d] := by
  match s, h with
  | [a, b, c, d], _ => exact ⟨a, b, c, d, rfl⟩

/-- How many registers of a box are not fixed. -/
def openN (b : List Rng) : Nat := (b.filter fun r => decide (r.1 < r.2.1)).length

theorem ctr_size {c : Ctr} (h : boxC c) (ho : openN (boxOf c.1 c.2.1) = 1) : sizeC c = sizeB (boxOf c.1 c.2.1) + 1 := by
  obtain ⟨l, hh, o, mn, mx, ⟨⟩⟩ := c
  have w := fun i (hi : i < 4) => (boxC_wid h hi).1
  obtain ⟨a0, a1, a2, a3, rfl⟩ := list4 (validS_len h.1)
  obtain ⟨b0, b1, b2, b3, rfl⟩ := list4 (validS_len h.2.1)
  have w0 : a0 ≤ b0 := w 0 (by omega)
  have w1 : a1 ≤ b1 := w 1 (by omega)
  have w2 : a2 ≤ b2 := w 2 (by omega)
  have w3 : a3 ≤ b3 := w 3 (by omega)
  clear w h
  have e : sizeC ([a0, a1, a2, a3], [b0, b1, b2, b3], o, mn, mx, ()) = 1 * (b0 - a0 + 1) * (b1 - a1 + 1) * (b2 - a2 + 1) * (b3 - a3 + 1) := rfl
  have e2 : sizeB (boxOf [a0, a1, a2, a3] [b0, b1, b2, b3]) = (b0 - a0) + ((b1 - a1) + ((b2 - a2) + ((b3 - a3) + 0))) := rfl
  dsimp only
  rw [e, e2]
  unfold openN boxOf at ho
  simp only [List.zipWith_cons_cons, List.zipWith_nil_left, List.filter_cons, List.filter_nil, decide_eq_true_eq] at ho
  by_cases c0 : a0 < b0 <;> by_cases c1 : a1 < b1 <;> by_cases c2 : a2 < b2 <;> by_cases c3 : a3 < b3 <;> simp [c0, c1, c2, c3] at ho
  · rw [show b1 - a1 = 0 by omega, show b2 - a2 = 0 by omega, show b3 - a3 = 0 by omega]; omega
  · rw [show b0 - a0 = 0 by omega, show b2 - a2 = 0 by omega, show b3 - a3 = 0 by omega]; omega
  · rw [show b0 - a0 = 0 by omega, show b1 - a1 = 0 by omega, show b3 - a3 = 0 by omega]; omega
  · rw [show b0 - a0 = 0 by omega, show b1 - a1 = 0 by omega, show b2 - a2 = 0 by omega]; omega

theorem boxOf_valid {c : Ctr} (h : boxC c) : validB (boxOf c.1 c.2.1) = true := by
  have l1 := validS_len h.1
  have l2 := validS_len h.2.1
  have ll : (boxOf c.1 c.2.1).length = 4 := by unfold boxOf; rw [List.length_zipWith]; omega
  rw [validB_iff]
  refine ⟨ll, fun r hr => ?_⟩
  obtain ⟨i, hi, rfl⟩ := List.getElem_of_mem hr
  have w := boxC_wid h (i := i) (by omega)
  have e : (boxOf c.1 c.2.1)[i] = (c.1.getD i 0, c.2.1.getD i 0, ()) := by
    simp [boxOf, List.getD_eq_getElem?_getD, show i < c.1.length by omega, show i < c.2.1.length by omega]
  rw [e, isRange_iff]
  dsimp only
  omega

theorem point_valid {s : List Int} (h : validS s = true) : validB (boxOf s s) = true := by
  have l1 := validS_len h
  have ll : (boxOf s s).length = 4 := by unfold boxOf; rw [List.length_zipWith]; omega
  rw [validB_iff]
  refine ⟨ll, fun r hr => ?_⟩
  obtain ⟨i, hi, rfl⟩ := List.getElem_of_mem hr
  have w := (validS_iff.1 h).2 _ (List.getElem_mem (show i < s.length by omega))
  have e : (boxOf s s)[i] = (s[i]'(by omega), s[i]'(by omega), ()) := by simp [boxOf]
  rw [e, isRange_iff]
  dsimp only
  omega

/-! ### Spans from a point -/
theorem point_Rd {s : List Int} (hl : s.length = 4) {i : Int} (h0 : 0 ≤ i) (h1 : i ≤ 3) : Rd (boxOf s s) i = (Rg s i, Rg s i, ()) := by
  unfold Rd Rg boxOf
  rw [getD_zip (fun x y => ((x, y, ()) : Rng)) 0 0 tR.dflt (by omega) (by omega)]

theorem point_set {s : List Int} (hl : s.length = 4) (i : Nat) (n : Int) : (boxOf s s).set i (n, n, ()) = boxOf (s.set i n) (s.set i n) := by
  unfold boxOf
  refine List.ext_getElem (by simp) fun j h1 h2 => ?_
  simp only [List.getElem_set, List.getElem_zipWith]
  split <;> rfl

theorem point_after {l : Lin} (hl : validLine l = true) {s : List Int} (hs : validS s = true) (i : Nat) : afterBox l (boxOf s s) = boxOf (stepS noFrc l i s) (stepS noFrc l i s) := by
  have l4 := validS_len hs
  unfold afterBox stepS
  split
  · rename_i hw
    have hr := line_regs hl
    have hw2 : 1 ≤ l.1 ∧ l.1 ≤ 6 := by unfold writes at hw; simpa using hw
    have e : cutR (wrange l (boxOf s s)) = (cut (wnum noFrc l i s), cut (wnum noFrc l i s), ()) := by
      unfold wnum noFrc wval cutR
      obtain ⟨op, t, x, y, ⟨⟩⟩ := l
      unfold wrange
      dsimp only at hr hw2 ⊢
      by_cases e1 : op = 1
      · rw [if_pos e1, if_pos e1]; rfl
      rw [if_neg e1, if_neg e1]
      have ix := hr.1 (by omega)
      rw [point_Rd l4 ix.1 ix.2]
      by_cases e2 : op = 2
      · rw [if_pos e2, if_pos e2]; rfl
      have iy := hr.2.1 (by omega)
      rw [if_neg e2, if_neg e2, point_Rd l4 iy.1 iy.2]
      by_cases e3 : op = 3
      · rw [if_pos e3, if_pos e3]; rfl
      rw [if_neg e3, if_neg e3]
      by_cases e4 : op = 4
      · rw [if_pos e4, if_pos e4]; rfl
      rw [if_neg e4, if_neg e4]
      by_cases e5 : op = 5
      · rw [if_pos e5, if_pos e5]; rfl
      rw [if_neg e5, if_neg e5]; rfl
    rw [e, point_set l4]
  · rfl

/-- Behind the first k lines just one spot from k on is reached: the one at which the run goes on, with its state. -/
def AtPt (p : List Lin) (q : List Spot) (k i : Nat) (s : List Int) : Prop := k ≤ i ∧ validS s = true ∧ ∀ m, k ≤ m → m ≤ p.length → q.getD m dSpot = if m = min i p.length then ((true, ()), boxOf s s, ()) else dSpot

theorem comeS_new (b : List Rng) : comeS dSpot b = ((true, ()), b, ()) := by
  unfold comeS
  rw [if_neg (by decide)]

theorem pt_step {p : List Lin} (h : p.all validLine = true) {q : List Spot} (hq : q.length = p.length + 1) {k i : Nat} {s : List Int} (hk : k < p.length) (ha : AtPt p q k i s) :
    ∃ i' s', AtPt p (stepSpan p q k) (k + 1) i' s' ∧ ∀ f, p.length < i + f → ∃ f', p.length < i' + f' ∧ (runF p noFrc f i s).2 = (runF p noFrc f' i' s').2 := by
  obtain ⟨h1, h2, h3⟩ := ha
  have hl := validLine_getD h hk
  have l4 := validS_len h2
  by_cases e : i = k
  · subst e
    have hi := h3 i (Nat.le_refl _) (by omega)
    rw [if_pos (by omega)] at hi
    have hrest : ∀ m, i + 1 ≤ m → m ≤ p.length → q.getD m dSpot = dSpot := fun m a b => by rw [h3 m (by omega) b, if_neg (by omega)]
    refine ⟨stepTo (p.getD i tL.dflt) i s, stepS noFrc (p.getD i tL.dflt) i s, ⟨by have := stepTo_gt (p.getD i tL.dflt) i s; omega, stepS_ok _ _ _ h2, ?_⟩, ?_⟩
    · intro m hm1 hm2
      unfold stepSpan
      dsimp only
      rw [hi, if_neg (show ¬ (true = false) by simp)]
      dsimp only
      by_cases h7 : (p.getD i dLin).1 = 7
      · rw [if_neg (by simpa using h7)]
        have ht := skip_to h hk h7
        have hr := line_regs hl
        have ix := hr.1 (by omega)
        have iy := hr.2.1 (by omega)
        rw [point_Rd l4 ix.1 ix.2, point_Rd l4 iy.1 iy.2]
        have hw : writes (p.getD i dLin) = false := by unfold writes; simp only [decide_eq_false_iff_not]; omega
        have es : stepS noFrc (p.getD i tL.dflt) i s = s := by unfold stepS; rw [if_neg (by unfold dLin at hw; rw [hw]; simp)]
        rw [es]
        unfold dLin at *
        dsimp only
        by_cases c : Rg s (p.getD i tL.dflt).2.2.1 < Rg s (p.getD i tL.dflt).2.2.2.1
        · have hne : (p.getD i tL.dflt).2.2.1 ≠ (p.getD i tL.dflt).2.2.2.1 := fun e => by rw [e] at c; omega
          have est : stepTo (p.getD i tL.dflt) i s = i + 1 + (p.getD i tL.dflt).2.1.toNat := by unfold stepTo; rw [if_pos ⟨h7, c⟩]
          rw [est, if_pos ⟨hne, c⟩, if_neg (by rintro (g | g); exact hne g; omega)]
          rw [comeAt_get _ _ _ _ (by omega)]
          have eto : (min ((i : Int) + 1 + (p.getD i tL.dflt).2.1) (p.length : Int)).toNat = min (i + 1 + (p.getD i tL.dflt).2.1.toNat) p.length := by omega
          rw [eto]
          by_cases em : min (i + 1 + (p.getD i tL.dflt).2.1.toNat) p.length = m
          · rw [if_pos em, if_pos em.symm, em, hrest m hm1 hm2, comeS_new]
          · rw [if_neg em, if_neg (fun g => em g.symm), hrest m hm1 hm2]
        · have est : stepTo (p.getD i tL.dflt) i s = i + 1 := by unfold stepTo; rw [if_neg (by rintro ⟨_, g⟩; exact c g)]
          rw [est, if_neg (by rintro ⟨_, g⟩; exact c g), if_pos (by omega)]
          rw [comeAt_get _ _ _ _ (by omega)]
          by_cases em : i + 1 = m
          · rw [if_pos em, if_pos (by omega), em, hrest m hm1 hm2, comeS_new]
          · rw [if_neg em, if_neg (by omega), hrest m hm1 hm2]
      · rw [if_pos h7]
        have est : stepTo (p.getD i tL.dflt) i s = i + 1 := by unfold stepTo; rw [if_neg (by rintro ⟨g, _⟩; exact h7 g)]
        rw [est, comeAt_get _ _ _ _ (by omega), point_after hl h2 i]
        by_cases em : i + 1 = m
        · rw [if_pos em, if_pos (by omega), em, hrest m hm1 hm2, comeS_new]
        · rw [if_neg em, if_neg (by omega), hrest m hm1 hm2]
    · intro f hf
      match f, hf with
      | 0, hf => omega
      | f + 1, hf =>
        refine ⟨f, by have := stepTo_gt (p.getD i tL.dflt) i s; omega, ?_⟩
        rw [runF, if_pos hk]
  · have hd := h3 k (Nat.le_refl _) (by omega)
    rw [if_neg (by omega)] at hd
    refine ⟨i, s, ⟨by omega, h2, fun m a b => ?_⟩, fun f hf => ⟨f, hf, rfl⟩⟩
    unfold stepSpan
    dsimp only
    rw [hd, if_pos (by rfl)]
    exact h3 m (by omega) b

theorem pt_to {p : List Lin} (h : p.all validLine = true) {s : List Int} (hs : validS s = true) : ∀ k, k ≤ p.length → ∃ i s', AtPt p (spansTo p (boxOf s s) k) k i s' ∧ ∃ f, p.length < i + f ∧ runS p s = (runF p noFrc f i s').2
  | 0, _ => by
    refine ⟨0, s, ⟨Nat.le_refl _, hs, fun m _ hm => ?_⟩, p.length + 1, by omega, rfl⟩
    show (comeAt (List.replicate (p.length + 1) dSpot) 0 (boxOf s s)).getD m dSpot = _
    have z : ∀ m, (List.replicate (p.length + 1) dSpot).getD m dSpot = dSpot := fun m => by simp [List.getD_eq_getElem?_getD, List.getElem?_replicate]; split <;> rfl
    rw [comeAt_get _ _ _ _ (by simp), z, comeS_new, z, Nat.zero_min]
    by_cases e : 0 = m
    · rw [if_pos e, if_pos e.symm]
    · rw [if_neg e, if_neg (fun g => e g.symm)]
  | k + 1, hk => by
    obtain ⟨i, s', ha, f, hf, he⟩ := pt_to h hs k (by omega)
    rw [spansTo_succ]
    obtain ⟨i', s'', h1, h2⟩ := pt_step h (spansTo_ok h (point_valid hs) k (by omega)).1 (by omega) ha
    obtain ⟨f', g1, g2⟩ := h2 f hf
    exact ⟨i', s'', h1, f', g1, he.trans g2⟩

theorem after_point {p : List Lin} (h : p.all validLine = true) {s : List Int} (hs : validS s = true) : afterB p (boxOf s s) = boxOf (runS p s) (runS p s) := by
  obtain ⟨i, s', ⟨h1, _, h3⟩, f, hf, he⟩ := pt_to h hs p.length (Nat.le_refl _)
  have g := h3 p.length (Nat.le_refl _) (Nat.le_refl _)
  rw [if_pos (by omega)] at g
  unfold afterB spans
  rw [g]
  have : (runF p noFrc f i s').2 = s' := by
    cases f with
    | zero => rfl
    | succ f => rw [runF, if_neg (by omega)]
  rw [he, this]
end Go.Tk
