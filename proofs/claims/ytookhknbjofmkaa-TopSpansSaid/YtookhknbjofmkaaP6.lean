/- Plain facts on boxes and spans (layer 6). No program in sight. -/
import Derived.Test.YtookhknbjofmkaaP1r
set_option linter.unusedSimpArgs false
set_option linter.unusedVariables false
namespace Go.Tk
open Go Go.RowKit

def isRange (r : Rng) : Bool := within r.1 (-999) 999 && within r.2.1 r.1 999
def validB (b : List Rng) : Bool := decide (b.length = 4) && b.all isRange
def hull2 (r s : Rng) : Rng := (min r.1 s.1, max r.2.1 s.2.1, ())
def meet2 (r s : Rng) : Rng := (max r.1 s.1, min r.2.1 s.2.1, ())
def join (f : Rng → Rng → Rng) (a b : List Rng) : List Rng := List.zipWith f a b
def comeS (s : Spot) (b : List Rng) : Spot := if s.1.1 = true then (s.1, join hull2 s.2.1 b, ()) else ((true, ()), b, ())
def rng (l h : Int) : Rng := (l, h, ())
def Rd (b : List Rng) (i : Int) : Rng := List.getD b i.toNat tR.dflt
def wrange (l : Lin) (b : List Rng) : Rng := match l with
  | (op, _, x, y, _) =>
    if op = 1 then rng x x
    else if op = 2 then rng (Rd b x).1 (Rd b x).2.1
    else if op = 3 then rng ((Rd b x).1 + (Rd b y).1) ((Rd b x).2.1 + (Rd b y).2.1)
    else if op = 4 then rng ((Rd b x).1 - (Rd b y).2.1) ((Rd b x).2.1 - (Rd b y).1)
    else if op = 5 then rng (min (Rd b x).1 (Rd b y).1) (min (Rd b x).2.1 (Rd b y).2.1)
    else rng (max (Rd b x).1 (Rd b y).1) (max (Rd b x).2.1 (Rd b y).2.1)
def cutR (r : Rng) : Rng := rng (cut r.1) (cut r.2.1)

theorem validB_get {b : List Rng} (h : validB b = true) {i : Int} (h0 : 0 ≤ i) (h1 : i ≤ 3) : -999 ≤ (Rd b i).1 ∧ (Rd b i).1 ≤ (Rd b i).2.1 ∧ (Rd b i).2.1 ≤ 999 := by
  unfold validB at h
  rw [Bool.and_eq_true] at h
  have hl : b.length = 4 := by simpa using h.1
  have := List.all_eq_true.1 h.2 _ (mem_getD (d := (tR.dflt : Rng)) (l := b) (i := i.toNat) (by omega))
  unfold isRange within at this
  simp only [Bool.and_eq_true, decide_eq_true_eq] at this
  unfold Rd
  omega

abbrev dSpot : Spot := tSpot.dflt
abbrev dLin : Lin := tL.dflt
def comeAt (out : List Spot) (j : Nat) (b : List Rng) : List Spot := out.set j (comeS (out.getD j dSpot) b)
def afterBox (l : Lin) (b : List Rng) : List Rng := if writes l then b.set l.2.1.toNat (cutR (wrange l b)) else b
def stepSpan (p : List Lin) (out : List Spot) (i : Nat) : List Spot :=
  let s := out.getD i dSpot
  let l := p.getD i dLin
  if s.1.1 = false then out
  else if l.1 ≠ 7 then comeAt out (i + 1) (afterBox l s.2.1)
  else
    let x := Rd s.2.1 l.2.2.1
    let y := Rd s.2.1 l.2.2.2.1
    let out1 := if l.2.2.1 = l.2.2.2.1 ∨ y.1 ≤ x.2.1 then comeAt out (i + 1) s.2.1 else out
    if l.2.2.1 ≠ l.2.2.2.1 ∧ x.1 < y.2.1 then comeAt out1 (min ((i : Int) + 1 + l.2.1) (p.length : Int)).toNat s.2.1 else out1
def spans0 (p : List Lin) (b : List Rng) : List Spot := comeAt (List.replicate (p.length + 1) dSpot) 0 b
def spansTo (p : List Lin) (b : List Rng) (k : Nat) : List Spot := (List.range k).foldl (stepSpan p) (spans0 p b)
def spans (p : List Lin) (b : List Rng) : List Spot := spansTo p b p.length

theorem validB_len {b : List Rng} (h : validB b = true) : b.length = 4 := by
  unfold validB at h
  rw [Bool.and_eq_true] at h
  simpa using h.1

theorem validB_iff {b : List Rng} : validB b = true ↔ b.length = 4 ∧ ∀ r ∈ b, isRange r = true := by
  unfold validB
  rw [Bool.and_eq_true, List.all_eq_true]
  simp

theorem isRange_iff {r : Rng} : isRange r = true ↔ -999 ≤ r.1 ∧ r.1 ≤ r.2.1 ∧ r.2.1 ≤ 999 := by
  unfold isRange within
  simp only [Bool.and_eq_true, decide_eq_true_eq]
  omega

theorem hull2_ok {r s : Rng} (h1 : isRange r = true) (h2 : isRange s = true) : isRange (hull2 r s) = true := by
  rw [isRange_iff] at *
  unfold hull2
  dsimp only
  omega

theorem join_ok {a b : List Rng} (h1 : validB a = true) (h2 : validB b = true) : validB (join hull2 a b) = true := by
  rw [validB_iff] at *
  refine ⟨by simp [join, h1.1, h2.1], fun r hr => ?_⟩
  obtain ⟨i, hi, rfl⟩ := List.getElem_of_mem hr
  simp only [join, List.getElem_zipWith]
  exact hull2_ok (h1.2 _ (List.getElem_mem _)) (h2.2 _ (List.getElem_mem _))

/-- What is known of a spot: it is reached with a right box, or it is empty. -/
def spotOK (s : Spot) : Prop := (s.1.1 = true ∧ validB s.2.1 = true) ∨ (s.1.1 = false ∧ s.2.1 = [])

theorem comeS_ok {s : Spot} {b : List Rng} (h : spotOK s) (hb : validB b = true) : spotOK (comeS s b) := by
  unfold comeS
  rcases h with ⟨h1, h2⟩ | ⟨h1, h2⟩
  · rw [if_pos h1]; exact .inl ⟨h1, join_ok h2 hb⟩
  · rw [if_neg (by rw [h1]; simp)]; exact .inl ⟨rfl, hb⟩

def outOK (n : Nat) (out : List Spot) : Prop := out.length = n + 1 ∧ ∀ s ∈ out, spotOK s

theorem outOK_get {n : Nat} {out : List Spot} (h : outOK n out) {i : Nat} (hi : i ≤ n) : spotOK (out.getD i dSpot) := h.2 _ (mem_getD (by have := h.1; omega))

theorem comeAt_ok {n : Nat} {out : List Spot} (h : outOK n out) {j : Nat} (hj : j ≤ n) {b : List Rng} (hb : validB b = true) : outOK n (comeAt out j b) := by
  unfold comeAt
  refine ⟨by rw [List.length_set]; exact h.1, fun s hs => ?_⟩
  rcases List.mem_or_eq_of_mem_set hs with h1 | rfl
  · exact h.2 s h1
  · exact comeS_ok (outOK_get h hj) hb

theorem cut_mono {a b : Int} (h : a ≤ b) : -999 ≤ cut a ∧ cut a ≤ cut b ∧ cut b ≤ 999 := by
  unfold cut; omega

theorem wrange_le {l : Lin} {b : List Rng} (hl : validLine l = true) (hb : validB b = true) (hw : writes l = true) : (wrange l b).1 ≤ (wrange l b).2.1 := by
  obtain ⟨op, t, x, y, _⟩ := l
  obtain ⟨h3, h4, _, _, _, _⟩ := validLine_regs hl
  have hw : 1 ≤ op ∧ op ≤ 6 := by simpa [writes] using hw
  unfold wrange
  simp only
  split
  · exact Int.le_refl _
  · have gx := validB_get hb (i := x) (by omega) (by omega)
    split
    · exact gx.2.1
    · have gy := validB_get hb (i := y) (by omega) (by omega)
      unfold rng
      repeat' split
      all_goals (dsimp only; omega)

theorem afterBox_ok {l : Lin} {b : List Rng} (hl : validLine l = true) (hb : validB b = true) : validB (afterBox l b) = true := by
  unfold afterBox
  split
  · rename_i hw
    rw [validB_iff] at *
    refine ⟨by rw [List.length_set]; exact hb.1, fun r hr => ?_⟩
    rcases List.mem_or_eq_of_mem_set hr with h1 | rfl
    · exact hb.2 r h1
    · rw [isRange_iff]
      have := cut_mono (wrange_le hl (validB_iff.2 hb) hw)
      unfold cutR rng
      exact ⟨this.1, this.2.1, this.2.2⟩
  · exact hb

theorem validLine_getD {p : List Lin} (h : p.all validLine = true) {i : Nat} (hi : i < p.length) : validLine (p.getD i dLin) = true := List.all_eq_true.1 h _ (mem_getD hi)

theorem skip_to {p : List Lin} (h : p.all validLine = true) {i : Nat} (hi : i < p.length) (h7 : (p.getD i dLin).1 = 7) : 1 ≤ (p.getD i dLin).2.1 ∧ (p.getD i dLin).2.1 ≤ 8 := by
  have hv := validLine_getD h hi
  generalize p.getD i dLin = l at *
  obtain ⟨op, t, x, y, _⟩ := l
  exact (validLine_regs hv).2.2.2.1 h7

theorem stepSpan_ok {p : List Lin} (h : p.all validLine = true) {out : List Spot} (ho : outOK p.length out) {i : Nat} (hi : i < p.length) : outOK p.length (stepSpan p out i) := by
  unfold stepSpan
  have hs := outOK_get ho (i := i) (by omega)
  have hl := validLine_getD h hi
  simp only
  split
  · exact ho
  · rename_i hr
    have hb : validB (out.getD i dSpot).2.1 = true := by
      rcases hs with h1 | h1
      · exact h1.2
      · exact absurd h1.1 hr
    split
    · exact comeAt_ok ho (by omega) (afterBox_ok hl hb)
    · rename_i h7
      have ht := skip_to h hi (by simpa using h7)
      have h1 : outOK p.length (if (p.getD i dLin).2.2.1 = (p.getD i dLin).2.2.2.1 ∨ (Rd (out.getD i dSpot).2.1 (p.getD i dLin).2.2.2.1).1 ≤ (Rd (out.getD i dSpot).2.1 (p.getD i dLin).2.2.1).2.1 then comeAt out (i + 1) (out.getD i dSpot).2.1 else out) := by
        split
        · exact comeAt_ok ho (by omega) hb
        · exact ho
      split
      · exact comeAt_ok h1 (by omega) hb
      · exact h1

theorem spansTo_ok {p : List Lin} (h : p.all validLine = true) {b : List Rng} (hb : validB b = true) : ∀ k, k ≤ p.length → outOK p.length (spansTo p b k)
  | 0, _ => by
    refine comeAt_ok ⟨by simp, fun s hs => ?_⟩ (Nat.zero_le _) hb
    rw [List.eq_of_mem_replicate hs]
    exact .inr ⟨rfl, rfl⟩
  | k + 1, hk => by
    unfold spansTo
    rw [List.range_succ, List.foldl_append]
    exact stepSpan_ok h (spansTo_ok h hb k (by omega)) (by omega)

theorem spansTo_succ (p : List Lin) (b : List Rng) (k : Nat) : spansTo p b (k + 1) = stepSpan p (spansTo p b k) k := by
  unfold spansTo
  rw [List.range_succ, List.foldl_append]; rfl

end Go.Tk
