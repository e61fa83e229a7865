/- Plain facts: what a run of a program does (layer 1). No program in sight. -/
import Derived.Test.YtgimfjbnbnnjeaaP1
set_option linter.unusedSimpArgs false
set_option linter.unusedVariables false
namespace Go.Tk
open Go Go.RowKit

def cut (n : Int) : Int := max (-999) (min 999 n)
def Rg (s : List Int) (i : Int) : Int := List.getD s i.toNat 0
/-- What a line that writes makes of a state, before it is cut. -/
def wval (l : Lin) (s : List Int) : Int :=
  if l.1 = 1 then l.2.2.1
  else if l.1 = 2 then Rg s l.2.2.1
  else if l.1 = 3 then Rg s l.2.2.1 + Rg s l.2.2.2.1
  else if l.1 = 4 then Rg s l.2.2.1 - Rg s l.2.2.2.1
  else if l.1 = 5 then min (Rg s l.2.2.1) (Rg s l.2.2.2.1)
  else max (Rg s l.2.2.1) (Rg s l.2.2.2.1)
def writes (l : Lin) : Bool := decide (1 ≤ l.1 ∧ l.1 ≤ 6)

/-- What a forced line writes: a number, if it is forced. -/
abbrev Frc := Int → Option Int
def wnum (fr : Frc) (l : Lin) (i : Nat) (s : List Int) : Int := match fr i with
  | some n => n
  | none => wval l s
def stepTo (l : Lin) (i : Nat) (s : List Int) : Nat := if l.1 = 7 ∧ Rg s l.2.2.1 < Rg s l.2.2.2.1 then i + 1 + l.2.1.toNat else i + 1
def stepS (fr : Frc) (l : Lin) (i : Nat) (s : List Int) : List Int := if writes l then s.set l.2.1.toNat (cut (wnum fr l i s)) else s
abbrev Vst := Int × List Int × Unit
def runF (p : List Lin) (fr : Frc) : Nat → Nat → List Int → List Vst × List Int
  | 0, _, s => ([], s)
  | f + 1, i, s => if i < p.length then (((i : Int), s, ()) :: (runF p fr f (stepTo (p.getD i tL.dflt) i s) (stepS fr (p.getD i tL.dflt) i s)).1, (runF p fr f (stepTo (p.getD i tL.dflt) i s) (stepS fr (p.getD i tL.dflt) i s)).2) else ([], s)
def noFrc : Frc := fun _ => none
def visits (p : List Lin) (fr : Frc) (s : List Int) : List Vst := (runF p fr (p.length + 1) 0 s).1
def endS (p : List Lin) (fr : Frc) (s : List Int) : List Int := (runF p fr (p.length + 1) 0 s).2
def runS (p : List Lin) (s : List Int) : List Int := endS p noFrc s
def doneS (p : List Lin) (s : List Int) : List Int := (visits p noFrc s).map (·.1)

theorem stepTo_gt (l : Lin) (i : Nat) (s : List Int) : i < stepTo l i s := by unfold stepTo; split <;> omega

theorem runF_more (p : List Lin) (fr : Frc) : ∀ (f i : Nat) (s : List Int), p.length < i + f → runF p fr (f + 1) i s = runF p fr f i s
  | 0, i, s, h => by
    unfold runF
    rw [if_neg (by omega)]
  | f + 1, i, s, h => by
    rw [runF]
    conv => rhs; rw [runF]
    by_cases hi : i < p.length
    · rw [if_pos hi, if_pos hi, runF_more p fr f _ _ (by have := stepTo_gt (p.getD i tL.dflt) i s; omega)]
    · rw [if_neg hi, if_neg hi]

theorem isVal_iff {n : Int} : isVal n = true ↔ -999 ≤ n ∧ n ≤ 999 := within_iff
theorem validS_iff {s : List Int} : validS s = true ↔ s.length = 4 ∧ ∀ n ∈ s, -999 ≤ n ∧ n ≤ 999 := by
  unfold validS
  rw [Bool.and_eq_true, List.all_eq_true]
  simp [isVal_iff]
theorem validS_len {s : List Int} (h : validS s = true) : s.length = 4 := (validS_iff.1 h).1
theorem validS_get {s : List Int} (h : validS s = true) (i : Int) : -999 ≤ Rg s i ∧ Rg s i ≤ 999 := by
  unfold Rg
  rcases Nat.lt_or_ge i.toNat s.length with g | g
  · exact (validS_iff.1 h).2 _ (mem_getD g)
  · rw [List.getD_eq_getElem?_getD, List.getElem?_eq_none g]; decide
theorem validS_set {s : List Int} (h : validS s = true) (i : Nat) {n : Int} (hn : -999 ≤ n ∧ n ≤ 999) : validS (s.set i n) = true := by
  rw [validS_iff] at *
  refine ⟨by simp [h.1], fun x hx => ?_⟩
  rcases List.mem_or_eq_of_mem_set hx with g | rfl
  · exact h.2 x g
  · exact hn
theorem cut_bd (n : Int) : -999 ≤ cut n ∧ cut n ≤ 999 := by unfold cut; omega
theorem stepS_ok (fr : Frc) (l : Lin) (i : Nat) {s : List Int} (h : validS s = true) : validS (stepS fr l i s) = true := by
  unfold stepS
  split
  · exact validS_set h _ (cut_bd _)
  · exact h
theorem runF_ok (p : List Lin) (fr : Frc) : ∀ (f i : Nat) (s : List Int), validS s = true → validS (runF p fr f i s).2 = true ∧ ∀ v ∈ (runF p fr f i s).1, (i : Int) ≤ v.1 ∧ v.1 < p.length ∧ validS v.2.1 = true
  | 0, i, s, h => ⟨h, fun v hv => by simp [runF] at hv⟩
  | f + 1, i, s, h => by
    rw [runF]
    split
    · rename_i hi
      obtain ⟨g1, g2⟩ := runF_ok p fr f (stepTo (p.getD i tL.dflt) i s) (stepS fr (p.getD i tL.dflt) i s) (stepS_ok fr _ i h)
      refine ⟨g1, fun v hv => ?_⟩
      rcases List.mem_cons.1 hv with rfl | hv
      · exact ⟨Int.le_refl _, by simpa using hi, h⟩
      · have g3 := g2 v hv
        have := stepTo_gt (p.getD i tL.dflt) i s
        exact ⟨by omega, g3.2.1, g3.2.2⟩
    · exact ⟨h, fun v hv => by simp at hv⟩
theorem runF_len (p : List Lin) (fr : Frc) : ∀ (f i : Nat) (s : List Int), (runF p fr f i s).1.length ≤ f
  | 0, _, _ => by simp [runF]
  | f + 1, i, s => by
    rw [runF]
    split
    · simp only [List.length_cons]
      have := runF_len p fr f (stepTo (p.getD i tL.dflt) i s) (stepS fr (p.getD i tL.dflt) i s)
      omega
    · simp
theorem runF_lt (p : List Lin) (fr : Frc) : ∀ (f i : Nat) (s : List Int), (runF p fr f i s).1.length + i ≤ max p.length i
  | 0, i, _ => by simp [runF]; omega
  | f + 1, i, s => by
    rw [runF]
    split
    · simp only [List.length_cons]
      have := runF_lt p fr f (stepTo (p.getD i tL.dflt) i s) (stepS fr (p.getD i tL.dflt) i s)
      have := stepTo_gt (p.getD i tL.dflt) i s
      omega
    · simp; omega
theorem runS_ok {p : List Lin} {s : List Int} (h : validS s = true) : validS (runS p s) = true := (runF_ok p noFrc _ 0 s h).1
theorem visits_len (p : List Lin) (fr : Frc) (s : List Int) : (visits p fr s).length ≤ p.length := by have := runF_lt p fr (p.length + 1) 0 s; unfold visits; omega
theorem visits_ok {p : List Lin} {fr : Frc} {s : List Int} (h : validS s = true) : ∀ v ∈ visits p fr s, 0 ≤ v.1 ∧ v.1 < p.length ∧ validS v.2.1 = true := fun v hv => by
  have := (runF_ok p fr _ 0 s h).2 v hv
  exact ⟨by omega, this.2⟩

def err1 (p : List Lin) (s : List Int) : Int := if validP p = 0 then argErr (validS s) else validP p
theorem err1_ok {p : List Lin} {s : List Int} (h : err1 p s = 0) : validP p = 0 ∧ validS s = true := by
  unfold err1 at h
  split at h
  · exact ⟨by assumption, argErr_zero.1 h⟩
  · rename_i g; exact absurd h g

theorem validLine_at {p : List Lin} (h : p.all validLine = true) {i : Nat} (hi : i < p.length) : validLine (p.getD i tL.dflt) = true := List.all_eq_true.1 h _ (mem_getD hi)
/-- What is known of the numbers of a right line. -/
theorem line_regs {l : Lin} (h : validLine l = true) : (2 ≤ l.1 ∧ l.1 ≤ 7 → 0 ≤ l.2.2.1 ∧ l.2.2.1 ≤ 3) ∧ (3 ≤ l.1 ∧ l.1 ≤ 7 → 0 ≤ l.2.2.2.1 ∧ l.2.2.2.1 ≤ 3) ∧ (1 ≤ l.1 ∧ l.1 ≤ 6 → 0 ≤ l.2.1 ∧ l.2.1 ≤ 3) ∧ (l.1 = 7 → 1 ≤ l.2.1 ∧ l.2.1 ≤ 8) ∧ (l.1 = 1 → -9 ≤ l.2.2.1 ∧ l.2.2.1 ≤ 9) ∧ 0 ≤ l.1 ∧ l.1 ≤ 7 := by
  obtain ⟨op, t, x, y, ⟨⟩⟩ := l
  exact validLine_regs h

/-- What a function that is handed over forces. -/
def frcOf (F : Int × Unit → Int × Bool × Unit) : Frc := fun i => if (F (i, ())).2.1 = true then some (F (i, ())).1 else none

end Go.Tk
