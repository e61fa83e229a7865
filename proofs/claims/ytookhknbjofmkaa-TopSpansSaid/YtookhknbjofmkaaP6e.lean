/- Plain facts: each line that is done is reached with a box that has the state before it. No program in sight. -/
import Derived.Test.YtookhknbjofmkaaP6d
set_option linter.unusedSimpArgs false
set_option linter.unusedVariables false
set_option linter.unnecessarySimpa false
namespace Go.Tk
open Go Go.RowKit

theorem pt_step2 {p : List Lin} (h : p.all validLine = true) {q : List Spot} (hq : q.length = p.length + 1) {k i : Nat} {s : List Int} (hk : k < p.length) (ha : AtPt p q k i s) :
    ∃ i' s', AtPt p (stepSpan p q k) (k + 1) i' s' ∧ ∀ f, p.length < i + f → ∃ f', p.length < i' + f' ∧ runF p noFrc f i s = ((if i = k then [((k : Int), s, ())] else []) ++ (runF p noFrc f' i' s').1, (runF p noFrc f' i' s').2) := by
  obtain ⟨h1, h2, h3⟩ := ha
  have hl := validLine_getD h hk
  have l4 := validS_len h2
  by_cases e : i = k
  · subst e
    have hi := h3 i (Nat.le_refl _) (by omega)
    rw [if_pos (by omega)] at hi
    have hrest : ∀ m, i + 1 ≤ m → m ≤ p.length → q.getD m dSpot = dSpot := fun m a b => by rw [h3 m (by omega) b, if_neg (by omega)]
    refine ⟨stepTo (p.getD i tL.dflt) i s, stepS noFrc (p.getD i tL.dflt) i s, ⟨by have := stepTo_gt (p.getD i tL.dflt) i s; omega, stepS_ok _ _ _ h2, ?_⟩, ?_⟩
    · intro m hm1 hm2
      unfold stepSpan
      dsimp only
      rw [hi, if_neg (show ¬ (true = false) by simp)]
      dsimp only
      by_cases h7 : (p.getD i dLin).1 = 7
      · rw [if_neg (by simpa using h7)]
        have ht := skip_to h hk h7
        have hr := line_regs hl
        have ix := hr.1 (by omega)
        have iy := hr.2.1 (by omega)
        rw [point_Rd l4 ix.1 ix.2, point_Rd l4 iy.1 iy.2]
        have hw : writes (p.getD i dLin) = false := by unfold writes; simp only [decide_eq_false_iff_not]; omega
        have es : stepS noFrc (p.getD i tL.dflt) i s = s := by unfold stepS; rw [if_neg (by unfold dLin at hw; rw [hw]; simp)]
        rw [es]
        unfold dLin at *
        dsimp only
        by_cases c : Rg s (p.getD i tL.dflt).2.2.1 < Rg s (p.getD i tL.dflt).2.2.2.1
        · have hne : (p.getD i tL.dflt).2.2.1 ≠ (p.getD i tL.dflt).2.2.2.1 := fun e => by rw [e] at c; omega
          have est : stepTo (p.getD i tL.dflt) i s = i + 1 + (p.getD i tL.dflt).2.1.toNat := by unfold stepTo; rw [if_pos ⟨h7, c⟩]
          rw [est, if_pos ⟨hne, c⟩, if_neg (by rintro (g | g); exact hne g; omega)]
          rw [comeAt_get _ _ _ _ (by omega)]
          have eto : (min ((i : Int) + 1 + (p.getD i tL.dflt).2.1) (p.length : Int)).toNat = min (i + 1 + (p.getD i tL.dflt).2.1.toNat) p.length := by omega
          rw [eto]
          by_cases em : min (i + 1 + (p.getD i tL.dflt).2.1.toNat) p.length = m
          · rw [if_pos em, if_pos em.symm, em, hrest m hm1 hm2, comeS_new]
          · rw [if_neg em, if_neg (fun g => em g.symm), hrest m hm1 hm2]
        · have est : stepTo (p.getD i tL.dflt) i s = i + 1 := by unfold stepTo; rw [if_neg (by rintro ⟨_, g⟩; exact c g)]
          rw [est, if_neg (by rintro ⟨_, g⟩; exact c g), if_pos (by omega)]
          rw [comeAt_get _ _ _ _ (by omega)]
          by_cases em : i + 1 = m
          · rw [if_pos em, if_pos (by omega), em, hrest m hm1 hm2, comeS_new]
          · rw [if_neg em, if_neg (by omega), hrest m hm1 hm2]
      · rw [if_pos h7]
        have est : stepTo (p.getD i tL.dflt) i s = i + 1 := by unfold stepTo; rw [if_neg (by rintro ⟨g, _⟩; exact h7 g)]
        rw [est, comeAt_get _ _ _ _ (by omega), point_after hl h2 i]
        by_cases em : i + 1 = m
        · rw [if_pos em, if_pos (by omega), em, hrest m hm1 hm2, comeS_new]
        · rw [if_neg em, if_neg (by omega), hrest m hm1 hm2]
    · intro f hf
      match f, hf with
      | 0, hf => omega
      | f + 1, hf =>
        refine ⟨f, by have := stepTo_gt (p.getD i tL.dflt) i s; omega, ?_⟩
        rw [runF, if_pos hk, if_pos rfl]; rfl
  · have hd := h3 k (Nat.le_refl _) (by omega)
    rw [if_neg (by omega)] at hd
    refine ⟨i, s, ⟨by omega, h2, fun m a b => ?_⟩, fun f hf => ⟨f, hf, by rw [if_neg e]; rfl⟩⟩
    unfold stepSpan
    dsimp only
    rw [hd, if_pos (by rfl)]
    exact h3 m (by omega) b


/-- A line that is done, with its state: the point's spots have it. -/
def GoodV (p : List Lin) (b : List Rng) (v : Vst) : Prop := ∃ j : Nat, j < p.length ∧ v.1 = (j : Int) ∧ AtPt p (spansTo p b j) j j v.2.1

theorem pt_all {p : List Lin} (h : p.all validLine = true) {s : List Int} (hs : validS s = true) : ∀ k, k ≤ p.length → ∃ i s' pre, AtPt p (spansTo p (boxOf s s) k) k i s' ∧ (∀ v ∈ pre, GoodV p (boxOf s s) v) ∧ ∃ f, p.length < i + f ∧ visits p noFrc s = pre ++ (runF p noFrc f i s').1
  | 0, _ => by
    refine ⟨0, s, [], ⟨Nat.le_refl _, hs, fun m _ hm => ?_⟩, fun v hv => by simp at hv, p.length + 1, by omega, rfl⟩
    show (comeAt (List.replicate (p.length + 1) dSpot) 0 (boxOf s s)).getD m dSpot = _
    have z : ∀ m, (List.replicate (p.length + 1) dSpot).getD m dSpot = dSpot := fun m => by simp [List.getD_eq_getElem?_getD, List.getElem?_replicate]; split <;> rfl
    rw [comeAt_get _ _ _ _ (by simp), z, comeS_new, z, Nat.zero_min]
    by_cases e : 0 = m
    · rw [if_pos e, if_pos e.symm]
    · rw [if_neg e, if_neg (fun g => e g.symm)]
  | k + 1, hk => by
    obtain ⟨i, s', pre, ha, hg, f, hf, he⟩ := pt_all h hs k (by omega)
    rw [spansTo_succ]
    obtain ⟨i', s'', h1, h2⟩ := pt_step2 h (spansTo_ok h (point_valid hs) k (by omega)).1 (by omega) ha
    obtain ⟨f', g1, g2⟩ := h2 f hf
    refine ⟨i', s'', pre ++ (if i = k then [((k : Int), s', ())] else []), h1, fun v hv => ?_, f', g1, ?_⟩
    · rcases List.mem_append.1 hv with hv | hv
      · exact hg v hv
      · split at hv
        · rename_i e
          subst e
          simp at hv
          subst hv
          exact ⟨i, by omega, rfl, ha⟩
        · simp at hv
    · rw [he, g2, List.append_assoc]

theorem visits_good {p : List Lin} (h : p.all validLine = true) {s : List Int} (hs : validS s = true) : ∀ v ∈ visits p noFrc s, GoodV p (boxOf s s) v := by
  obtain ⟨i, s', pre, ⟨h1, _, _⟩, hg, f, hf, he⟩ := pt_all h hs p.length (Nat.le_refl _)
  have : (runF p noFrc f i s').1 = [] := by
    cases f with
    | zero => rfl
    | succ f => rw [runF, if_neg (by omega)]
  rw [he, this, List.append_nil]
  exact hg

/-- A step leaves the spots up to its line as they were. -/
theorem stepSpan_old {p : List Lin} (h : p.all validLine = true) {q : List Spot} (hq : outOK p.length q) {i : Nat} (hi : i < p.length) {j : Nat} (hj : j ≤ i) : (stepSpan p q i).getD j dSpot = q.getD j dSpot := by
  have hl := hq.1
  unfold stepSpan
  dsimp only
  split
  · rfl
  · split
    · rw [comeAt_get _ _ _ _ (by omega), if_neg (by omega)]
    · rename_i h7
      have ht := skip_to h hi (by simpa using h7)
      have o1 : ∀ b, (if (p.getD i dLin).2.2.1 = (p.getD i dLin).2.2.2.1 ∨ (Rd (q.getD i dSpot).2.1 (p.getD i dLin).2.2.2.1).1 ≤ (Rd (q.getD i dSpot).2.1 (p.getD i dLin).2.2.1).2.1 then comeAt q (i + 1) b else q).getD j dSpot = q.getD j dSpot := by
        intro b
        split
        · rw [comeAt_get _ _ _ _ (by omega), if_neg (by omega)]
        · rfl
      have o2 : ∀ b, (if (p.getD i dLin).2.2.1 = (p.getD i dLin).2.2.2.1 ∨ (Rd (q.getD i dSpot).2.1 (p.getD i dLin).2.2.2.1).1 ≤ (Rd (q.getD i dSpot).2.1 (p.getD i dLin).2.2.1).2.1 then comeAt q (i + 1) b else q).length = q.length := by
        intro b
        split
        · unfold comeAt; simp
        · rfl
      split
      · rw [comeAt_get _ _ _ _ (by rw [o2]; omega), if_neg (by omega)]
        exact o1 _
      · exact o1 _

theorem spans_old {p : List Lin} (h : p.all validLine = true) {b : List Rng} (hb : validB b = true) {j : Nat} : ∀ n, j + n ≤ p.length → (spansTo p b (j + n)).getD j dSpot = (spansTo p b j).getD j dSpot
  | 0, _ => rfl
  | n + 1, hn => by
    rw [show j + (n + 1) = (j + n) + 1 by omega, spansTo_succ, stepSpan_old h (spansTo_ok h hb (j + n) (by omega)) (by omega) (by omega), spans_old h hb n (by omega)]

theorem point_le {b : List Rng} {s : List Int} (hb : validB b = true) (hs : validS s = true) : hasB b s = true ↔ leBox (boxOf s s) b := by
  have l1 := validB_len hb
  have l2 := validS_len hs
  rw [hasB_iff (by omega)]
  have e : ∀ i, i < 4 → (boxOf s s).getD i tR.dflt = (s.getD i 0, s.getD i 0, ()) := fun i hi => by
    unfold boxOf
    rw [getD_zip (fun x y => ((x, y, ()) : Rng)) 0 0 tR.dflt (by omega) (by omega)]
  constructor
  · intro h i
    rcases Nat.lt_or_ge i 4 with g | g
    · rw [e i g]; exact h i (by omega)
    · rw [List.getD_eq_getElem?_getD, List.getD_eq_getElem?_getD, List.getElem?_eq_none (by omega), List.getElem?_eq_none (by unfold boxOf; simp; omega)]
      exact ⟨Int.le_refl _, Int.le_refl _⟩
  · intro h i hi
    have := h i
    rw [e i (by omega)] at this
    exact this

theorem visit_in {p : List Lin} (h : p.all validLine = true) {b : List Rng} (hb : validB b = true) {s : List Int} (hs : validS s = true) (hin : hasB b s = true) {v : Vst} (hv : v ∈ visits p noFrc s) :
    ((spans p b).getD v.1.toNat dSpot).1.1 = true ∧ validB ((spans p b).getD v.1.toNat dSpot).2.1 = true ∧ hasB ((spans p b).getD v.1.toNat dSpot).2.1 v.2.1 = true ∧ validS v.2.1 = true := by
  obtain ⟨j, hj, e, _, h2, h3⟩ := visits_good h hs v hv
  rw [e, Int.toNat_natCast]
  have g := h3 j (Nat.le_refl _) (by omega)
  rw [if_pos (by omega)] at g
  have m := mono_to h (point_valid hs) hb ((point_le hb hs).1 hin) j (by omega) j
  rw [g] at m
  obtain ⟨m1, m2⟩ := m rfl
  have o := spans_old h hb (j := j) (p.length - j) (by omega)
  rw [show j + (p.length - j) = p.length by omega] at o
  have o : (spans p b).getD j dSpot = (spansTo p b j).getD j dSpot := o
  rw [o]
  have hv : validB ((spansTo p b j).getD j dSpot).2.1 = true := by
    rcases outOK_get (spansTo_ok h hb j (by omega)) (i := j) (by omega) with g | g
    · exact g.2
    · rw [g.1] at m1; cases m1
  exact ⟨m1, hv, (point_le hv h2).2 m2, h2⟩

theorem end_in {p : List Lin} (h : p.all validLine = true) {b : List Rng} (hb : validB b = true) {s : List Int} (hs : validS s = true) (hin : hasB b s = true) : hasB (afterB p b) (runS p s) = true := by
  have g := after_mono h (point_valid hs) hb ((leBox_iff (point_valid hs) hb).2 ((point_le hb hs).1 hin))
  rw [after_point h hs, leBox_iff (point_valid (runS_ok hs)) (afterB_ok h hb)] at g
  exact (point_le (afterB_ok h hb) (runS_ok hs)).2 g

/-! ### What 'Before' gives -/
def inL (p : List Lin) (line : Int) : Bool := within line 0 ((p.length : Int) - 1)
def fndV (p : List Lin) (s : List Int) (line : Int) : Option Vst := (visits p noFrc s).find? fun v => v.1 == line
def befS (p : List Lin) (s : List Int) (line : Int) : List Int := if inL p line = true then (match fndV p s line with | some v => v.2.1 | none => []) else []
def wasS (p : List Lin) (s : List Int) (line : Int) : Bool := inL p line && (fndV p s line).isSome
def befE (p : List Lin) (s : List Int) (line : Int) : Int := if err1 p s = 0 then (if inL p line = true then 0 else 4) else err1 p s
def bef6 (p : List Lin) (b : List Rng) (line : Int) : List Rng := if inL p line = true then ((spans p b).getD line.toNat dSpot).2.1 else []
def was6 (p : List Lin) (b : List Rng) (line : Int) : Bool := inL p line && ((spans p b).getD line.toNat dSpot).1.1
def bef6E (p : List Lin) (b : List Rng) (line : Int) : Int := if err6 p b = 0 then (if inL p line = true then 0 else 4) else err6 p b

theorem find_take {α : Type} {q : α → Bool} {l : List α} {i : Nat} (d : α) (h : i < l.length) (h1 : (l.take i).any q = false) (h2 : q (l.getD i d) = true) : l.find? q = some (l.getD i d) := by
  have e : l = l.take i ++ (l.getD i d :: l.drop (i + 1)) := by
    have := List.take_append_drop i l
    rw [List.drop_eq_getElem_cons h] at this
    simpa [List.getD_eq_getElem?_getD, h] using this.symm
  rw [e, List.find?_append]
  have : (l.take i).find? q = none := by
    rw [List.find?_eq_none]; intro x hx; have := List.any_eq_false.1 h1 x hx; simpa using this
  rw [this, List.find?_cons_of_pos h2]
  rw [← e]; rfl
theorem find_none {α : Type} {q : α → Bool} {l : List α} (h1 : l.any q = false) : l.find? q = none := by
  rw [List.find?_eq_none]; intro x hx; have := List.any_eq_false.1 h1 x hx; simpa using this
theorem doneS_len6 (p : List Lin) (s : List Int) : (doneS p s).length ≤ p.length := by unfold doneS; rw [List.length_map]; exact visits_len _ _ _
end Go.Tk
