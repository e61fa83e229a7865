/- Plain facts for the laws of layer 6. No program in sight. -/
import Derived.Test.YtookhknbjofmkaaP6b
set_option linter.unusedSimpArgs false
set_option linter.unusedVariables false
namespace Go.Tk
open Go Go.RowKit

theorem getD_zip {α β γ : Type} (g : α → β → γ) {a : List α} {b : List β} {i : Nat} (da : α) (db : β) (dc : γ) (ha : i < a.length) (hb : i < b.length) : (List.zipWith g a b).getD i dc = g (a.getD i da) (b.getD i db) := by
  simp [List.getD_eq_getElem?_getD, List.getElem?_zipWith, ha, hb]

theorem hasB_iff {b : List Rng} {s : List Int} (h : b.length = s.length) : hasB b s = true ↔ ∀ i, i < b.length → (b.getD i tR.dflt).1 ≤ s.getD i 0 ∧ s.getD i 0 ≤ (b.getD i tR.dflt).2.1 := by
  unfold hasB
  rw [List.all_eq_true]
  constructor
  · intro e i hi
    have h2 : i < (List.zipWith (fun (r : Rng) n => within n r.1 r.2.1) b s).length := by simp; omega
    have := e _ (List.getElem_mem h2)
    simp only [id, List.getElem_zipWith, within_iff] at this
    simpa [List.getD_eq_getElem?_getD, hi, show i < s.length by omega] using this
  · intro e x hx
    obtain ⟨i, hi, rfl⟩ := List.getElem_of_mem hx
    have hi' : i < b.length := by simp at hi; omega
    simp only [id, List.getElem_zipWith, within_iff]
    have := e i hi'
    simpa [List.getD_eq_getElem?_getD, hi', show i < s.length by omega] using this

theorem twoOK_iff {a b : List Rng} : twoOK a b = true ↔ validB a = true ∧ validB b = true := by unfold twoOK; rw [Bool.and_eq_true]
theorem hasOK_iff {a : List Rng} {s : List Int} : hasOK a s = true ↔ validB a = true ∧ validS s = true := by unfold hasOK; rw [Bool.and_eq_true]
theorem validS_len' {s : List Int} (h : validS s = true) : s.length = 4 := by
  unfold validS at h
  rw [Bool.and_eq_true] at h
  simpa using h.1

theorem join_len {f : Rng → Rng → Rng} {a b : List Rng} (h1 : validB a = true) (h2 : validB b = true) : (join f a b).length = 4 := by
  have := validB_len h1
  have := validB_len h2
  simp [join]; omega

theorem join_left {a b : List Rng} (h1 : validB a = true) (h2 : validB b = true) : join hull2 a (join hull2 a b) = join hull2 a b := by
  have l1 := validB_len h1
  have l2 := validB_len h2
  rw [join_eq_iff (by rw [join_len h1 h2, l1])]
  intro i hi
  unfold join
  rw [getD_zip hull2 tR.dflt tR.dflt tR.dflt hi (by omega)]
  unfold hull2
  dsimp only
  omega

theorem join_right {a b : List Rng} (h1 : validB a = true) (h2 : validB b = true) : join hull2 b (join hull2 a b) = join hull2 a b := by
  have l1 := validB_len h1
  have l2 := validB_len h2
  rw [join_eq_iff (by rw [join_len h1 h2, l2])]
  intro i hi
  unfold join
  rw [getD_zip hull2 tR.dflt tR.dflt tR.dflt (by omega) hi]
  unfold hull2
  dsimp only
  omega

theorem hasB_meet {a b : List Rng} {s : List Int} (h1 : validB a = true) (h2 : validB b = true) (hs : validS s = true) : hasB (join meet2 a b) s = (hasB a s && hasB b s) := by
  have l1 := validB_len h1
  have l2 := validB_len h2
  have l3 := validS_len' hs
  have l4 := join_len (f := meet2) h1 h2
  rw [Bool.eq_iff_iff, Bool.and_eq_true, hasB_iff (by omega), hasB_iff (by omega), hasB_iff (by omega)]
  have e : ∀ i, i < 4 → (join meet2 a b).getD i tR.dflt = meet2 (a.getD i tR.dflt) (b.getD i tR.dflt) := fun i hi => getD_zip meet2 tR.dflt tR.dflt tR.dflt (by omega) (by omega)
  constructor
  · intro h
    refine ⟨fun i hi => ?_, fun i hi => ?_⟩
    · have := h i (by omega)
      rw [e i (by omega)] at this
      unfold meet2 at this
      dsimp only at this
      omega
    · have := h i (by omega)
      rw [e i (by omega)] at this
      unfold meet2 at this
      dsimp only at this
      omega
  · rintro ⟨g1, g2⟩ i hi
    rw [e i (by omega)]
    have := g1 i (by omega)
    have := g2 i (by omega)
    unfold meet2
    dsimp only
    omega

/-- If some state is in a meeting, it is a box. -/
theorem meet_valid {a b : List Rng} {s : List Int} (h1 : validB a = true) (h2 : validB b = true) (hs : validS s = true) (h : hasB a s = true) (h' : hasB b s = true) : validB (join meet2 a b) = true := by
  have l1 := validB_len h1
  have l2 := validB_len h2
  have l3 := validS_len' hs
  have l4 := join_len (f := meet2) h1 h2
  rw [validB_iff]
  refine ⟨l4, fun r hr => ?_⟩
  obtain ⟨i, hi, rfl⟩ := List.getElem_of_mem hr
  have hm : hasB (join meet2 a b) s = true := by rw [hasB_meet h1 h2 hs, h, h']; rfl
  have g := (hasB_iff (by omega)).1 hm i hi
  have ra := isRange_iff.1 ((validB_iff.1 h1).2 _ (mem_getD (d := tR.dflt) (show i < a.length by omega)))
  have rb := isRange_iff.1 ((validB_iff.1 h2).2 _ (mem_getD (d := tR.dflt) (show i < b.length by omega)))
  have e : (join meet2 a b).getD i tR.dflt = meet2 (a.getD i tR.dflt) (b.getD i tR.dflt) := getD_zip meet2 tR.dflt tR.dflt tR.dflt (by omega) (by omega)
  have e2 : (join meet2 a b)[i] = (join meet2 a b).getD i tR.dflt := by simp [List.getD_eq_getElem?_getD, hi]
  rw [e2, isRange_iff]
  rw [e] at g ⊢
  unfold meet2 at g ⊢
  dsimp only at g ⊢
  omega

/-! ### Halves -/
theorem half_ok {b : List Rng} {i : Int} (h : halfErr b i = 0) : validB b = true ∧ 0 ≤ i ∧ i ≤ 3 ∧ (Rd b i).1 ≠ (Rd b i).2.1 := by
  unfold halfErr at h
  split at h
  · rename_i g
    refine ⟨g.1, g.2.1, g.2.2, fun e => ?_⟩
    rw [if_pos e] at h; cases h
  · cases h

theorem validB_set {b : List Rng} (h : validB b = true) {i : Nat} {r : Rng} (hr : isRange r = true) : validB (b.set i r) = true := by
  rw [validB_iff] at *
  refine ⟨by simp [h.1], fun x hx => ?_⟩
  rcases List.mem_or_eq_of_mem_set hx with g | rfl
  · exact h.2 x g
  · exact hr

theorem getD_set {α : Type} {l : List α} {i : Nat} {x : α} (d : α) (hi : i < l.length) (j : Nat) : (l.set i x).getD j d = if i = j then x else l.getD j d := by
  rw [List.getD_eq_getElem?_getD, List.getElem?_set]
  by_cases e : i = j
  · rw [if_pos e, if_pos e, if_pos (by omega)]; rfl
  · rw [if_neg e, if_neg e, ← List.getD_eq_getElem?_getD]

theorem halfLow_ok {b : List Rng} {i : Int} (h : halfErr b i = 0) : validB (halfLow b i) = true := by
  obtain ⟨h1, h2, h3, h4⟩ := half_ok h
  have g := validB_get h1 h2 h3
  unfold halfLow midR
  rw [if_pos h]
  refine validB_set h1 (isRange_iff.2 ?_)
  dsimp only
  omega

theorem halfHigh_ok {b : List Rng} {i : Int} (h : halfErr b i = 0) : validB (halfHigh b i) = true := by
  obtain ⟨h1, h2, h3, h4⟩ := half_ok h
  have g := validB_get h1 h2 h3
  unfold halfHigh midR
  rw [if_pos h]
  refine validB_set h1 (isRange_iff.2 ?_)
  dsimp only
  omega

theorem half_has {b : List Rng} {i : Int} (h : halfErr b i = 0) {s : List Int} (hs : validS s = true) : (hasB (halfLow b i) s && hasB (halfHigh b i) s) = false ∧ hasB b s = (hasB (halfLow b i) s || hasB (halfHigh b i) s) := by
  obtain ⟨h1, h2, h3, h4⟩ := half_ok h
  have g := validB_get h1 h2 h3
  have l1 := validB_len h1
  have l2 := validB_len (halfLow_ok h)
  have l3 := validB_len (halfHigh_ok h)
  have l4 := validS_len' hs
  have eL : ∀ j : Nat, (halfLow b i).getD j tR.dflt = if i.toNat = j then ((Rd b i).1, midR (Rd b i), ()) else b.getD j tR.dflt := fun j => by
    unfold halfLow; rw [if_pos h]; exact getD_set _ (by omega) j
  have eH : ∀ j : Nat, (halfHigh b i).getD j tR.dflt = if i.toNat = j then (midR (Rd b i) + 1, (Rd b i).2.1, ()) else b.getD j tR.dflt := fun j => by
    unfold halfHigh; rw [if_pos h]; exact getD_set _ (by omega) j
  have hi : i.toNat < 4 := by omega
  have iB := hasB_iff (b := b) (s := s) (by omega)
  have iL := hasB_iff (b := halfLow b i) (s := s) (by omega)
  have iH := hasB_iff (b := halfHigh b i) (s := s) (by omega)
  have hm : (Rd b i).1 ≤ midR (Rd b i) ∧ midR (Rd b i) < (Rd b i).2.1 := by unfold midR; omega
  have eR : b.getD i.toNat tR.dflt = Rd b i := rfl
  constructor
  · cases c1 : hasB (halfLow b i) s
    · rfl
    cases c2 : hasB (halfHigh b i) s
    · rfl
    have a1 := iL.1 c1 i.toNat (by omega)
    have a2 := iH.1 c2 i.toNat (by omega)
    rw [eL, if_pos rfl] at a1
    rw [eH, if_pos rfl] at a2
    dsimp only at a1 a2
    omega
  · rw [Bool.eq_iff_iff, Bool.or_eq_true, iB, iL, iH]
    constructor
    · intro e
      have a0 := e i.toNat (by omega)
      rw [eR] at a0
      by_cases c : midR (Rd b i) < s.getD i.toNat 0
      · right
        intro j hj
        rw [eH]
        split
        · rename_i e2; subst e2; dsimp only; omega
        · exact e j (by omega)
      · left
        intro j hj
        rw [eL]
        split
        · rename_i e2; subst e2; dsimp only; omega
        · exact e j (by omega)
    · rintro (e | e)
      · intro j hj
        have := e j (by omega)
        rw [eL] at this
        split at this
        · rename_i e2; subst e2; dsimp only at this; rw [eR]; omega
        · exact this
      · intro j hj
        have := e j (by omega)
        rw [eH] at this
        split at this
        · rename_i e2; subst e2; dsimp only at this; rw [eR]; omega
        · exact this

/-! ### A box within another one -/
def leBox (a b : List Rng) : Prop := ∀ i : Nat, (b.getD i tR.dflt).1 ≤ (a.getD i tR.dflt).1 ∧ (a.getD i tR.dflt).2.1 ≤ (b.getD i tR.dflt).2.1

theorem leBox_iff {a b : List Rng} (h1 : validB a = true) (h2 : validB b = true) : join hull2 a b = b ↔ leBox a b := by
  have l1 := validB_len h1
  have l2 := validB_len h2
  rw [join_eq_iff (by omega)]
  constructor
  · intro h i
    rcases Nat.lt_or_ge i a.length with g | g
    · exact h i g
    · rw [List.getD_eq_getElem?_getD, List.getD_eq_getElem?_getD, List.getElem?_eq_none g, List.getElem?_eq_none (by omega)]
      exact ⟨Int.le_refl _, Int.le_refl _⟩
  · intro h i _; exact h i

theorem leBox_refl (a : List Rng) : leBox a a := fun _ => ⟨Int.le_refl _, Int.le_refl _⟩
theorem leBox_trans {a b c : List Rng} (h : leBox a b) (k : leBox b c) : leBox a c := fun i => by have := h i; have := k i; omega

theorem leBox_Rd {a b : List Rng} (h : leBox a b) (i : Int) : (Rd b i).1 ≤ (Rd a i).1 ∧ (Rd a i).2.1 ≤ (Rd b i).2.1 := h i.toNat

theorem leBox_set {a b : List Rng} (h : leBox a b) (hl : a.length = b.length) {i : Nat} {r s : Rng} (h1 : s.1 ≤ r.1) (h2 : r.2.1 ≤ s.2.1) : leBox (a.set i r) (b.set i s) := by
  intro j
  rcases Nat.lt_or_ge i a.length with g | g
  · rw [getD_set _ g, getD_set _ (by omega)]
    split
    · exact ⟨h1, h2⟩
    · exact h j
  · rw [List.set_eq_of_length_le g, List.set_eq_of_length_le (by omega)]; exact h j

theorem leBox_join {a b : List Rng} (h1 : validB a = true) (h2 : validB b = true) {c : List Rng} : leBox (join hull2 a b) c ↔ leBox a c ∧ leBox b c := by
  have l1 := validB_len h1
  have l2 := validB_len h2
  have l4 := join_len (f := hull2) h1 h2
  have e : ∀ i, i < 4 → (join hull2 a b).getD i tR.dflt = hull2 (a.getD i tR.dflt) (b.getD i tR.dflt) := fun i hi => getD_zip hull2 tR.dflt tR.dflt tR.dflt (by omega) (by omega)
  have z : ∀ (l : List Rng) (i : Nat), l.length = 4 → 4 ≤ i → l.getD i tR.dflt = tR.dflt := fun l i hl hi => by rw [List.getD_eq_getElem?_getD, List.getElem?_eq_none (by omega)]; rfl
  constructor
  · intro h
    refine ⟨fun i => ?_, fun i => ?_⟩
    all_goals
      have := h i
      rcases Nat.lt_or_ge i 4 with g | g
      · rw [e i g] at this; unfold hull2 at this; dsimp only at this; omega
      · rw [z _ i l4 g] at this
        first | (rw [z _ i l1 g]; exact this) | (rw [z _ i l2 g]; exact this)
  · rintro ⟨h, k⟩ i
    have := h i
    have := k i
    rcases Nat.lt_or_ge i 4 with g | g
    · rw [e i g]; unfold hull2; dsimp only; omega
    · rw [z _ i l4 g]
      have := h i
      rwa [z _ i l1 g] at this

theorem cut_le {a b : Int} (h : a ≤ b) : cut a ≤ cut b := by unfold cut; omega

theorem afterBox_mono {l : Lin} (hl : validLine l = true) {a b : List Rng} (h1 : validB a = true) (h2 : validB b = true) (h : leBox a b) : leBox (afterBox l a) (afterBox l b) := by
  unfold afterBox
  have l1 := validB_len h1
  have l2 := validB_len h2
  split
  · obtain ⟨op, t, x, y, ⟨⟩⟩ := l
    have hx := leBox_Rd h x
    have hy := leBox_Rd h y
    refine leBox_set h (by omega) ?_ ?_
    · unfold cutR rng
      dsimp only
      refine cut_le ?_
      unfold wrange rng
      dsimp only
      repeat' split
      all_goals (dsimp only; omega)
    · unfold cutR rng
      dsimp only
      refine cut_le ?_
      unfold wrange rng
      dsimp only
      repeat' split
      all_goals (dsimp only; omega)
  · exact h

/-- A spot within another one: reached only if that one is, and with a box within its. -/
def leSpot (s t : Spot) : Prop := s.1.1 = true → t.1.1 = true ∧ leBox s.2.1 t.2.1
def leSpots (o q : List Spot) : Prop := ∀ j : Nat, leSpot (o.getD j dSpot) (q.getD j dSpot)

theorem leSpot_up {n : Nat} {o q : List Spot} (ho : outOK n o) (hq : outOK n q) (h : leSpots o q) {j : Nat} (hj : j ≤ n) {b : List Rng} (hb : validB b = true) : leSpots o (comeAt q j b) := by
  intro k hr
  have := h k hr
  rw [comeAt_get _ _ _ _ (by have := hq.1; omega)]
  split
  · rename_i e; subst e
    refine ⟨comeS_reached _ _, ?_⟩
    unfold comeS
    rw [if_pos this.1]
    dsimp only
    have hv : validB (q.getD j dSpot).2.1 = true := by
      rcases outOK_get hq hj with g | g
      · exact g.2
      · rw [g.1] at this; exact absurd this.1 (by simp)
    exact leBox_trans this.2 ((leBox_join hv hb).1 (leBox_refl _)).1
  · exact this

theorem leSpot_both {n : Nat} {o q : List Spot} (ho : outOK n o) (hq : outOK n q) (h : leSpots o q) {j : Nat} (hj : j ≤ n) {a b : List Rng} (ha : validB a = true) (hb : validB b = true) (hab : leBox a b) : leSpots (comeAt o j a) (comeAt q j b) := by
  intro k hr
  have lo : j < o.length := by have := ho.1; omega
  have lq : j < q.length := by have := hq.1; omega
  rw [comeAt_get _ _ _ _ lo] at hr ⊢
  rw [comeAt_get _ _ _ _ lq]
  by_cases e : j = k
  · rw [if_pos e, if_pos e]
    refine ⟨comeS_reached _ _, ?_⟩
    have hj1 := h j
    have hq1 := outOK_get hq hj
    have ho1 := outOK_get ho hj
    generalize o.getD j dSpot = s at *
    generalize q.getD j dSpot = t at *
    unfold comeS
    have up : leBox a (if t.1.1 = true then (t.1, join hull2 t.2.1 b, ()) else ((true, ()), b, ()) : Spot).2.1 := by
      split
      · rename_i ht
        rcases hq1 with g | g
        · exact leBox_trans hab ((leBox_join g.2 hb).1 (leBox_refl _)).2
        · rw [g.1] at ht; cases ht
      · exact hab
    by_cases hs : s.1.1 = true
    · rw [if_pos hs]
      obtain ⟨g1, g2⟩ := hj1 hs
      rcases ho1 with g | g
      · refine (leBox_join g.2 ha).2 ⟨?_, up⟩
        rw [if_pos g1]
        rcases hq1 with g' | g'
        · exact leBox_trans g2 ((leBox_join g'.2 hb).1 (leBox_refl _)).1
        · rw [g1] at g'; exact absurd g'.1 (by simp)
      · rw [g.1] at hs; cases hs
    · rw [if_neg hs]
      exact up
  · rw [if_neg e] at hr ⊢
    rw [if_neg e]
    exact h k hr

theorem mono_step {p : List Lin} (h : p.all validLine = true) {o q : List Spot} (ho : outOK p.length o) (hq : outOK p.length q) (hs : leSpots o q) {i : Nat} (hi : i < p.length) : leSpots (stepSpan p o i) (stepSpan p q i) := by
  have hl := validLine_getD h hi
  have hsi := hs i
  have hoi := outOK_get ho (i := i) (by omega)
  have hqi := outOK_get hq (i := i) (by omega)
  have up : leSpots o (stepSpan p q i) := by
    unfold stepSpan
    dsimp only
    by_cases e : (q.getD i dSpot).1.1 = false
    · rw [if_pos e]; exact hs
    · rw [if_neg e]
      have hb : validB (q.getD i dSpot).2.1 = true := by
        rcases hqi with g | g
        · exact g.2
        · exact absurd g.1 e
      by_cases h7 : (p.getD i dLin).1 ≠ 7
      · rw [if_pos h7]; exact leSpot_up ho hq hs (by omega) (afterBox_ok hl hb)
      · rw [if_neg h7]
        have ht := skip_to h hi (by simpa using h7)
        generalize (q.getD i dSpot).2.1 = y at *
        have hA : leSpots o (if (p.getD i dLin).2.2.1 = (p.getD i dLin).2.2.2.1 ∨ (Rd y (p.getD i dLin).2.2.2.1).1 ≤ (Rd y (p.getD i dLin).2.2.1).2.1 then comeAt q (i + 1) y else q) ∧
            outOK p.length (if (p.getD i dLin).2.2.1 = (p.getD i dLin).2.2.2.1 ∨ (Rd y (p.getD i dLin).2.2.2.1).1 ≤ (Rd y (p.getD i dLin).2.2.1).2.1 then comeAt q (i + 1) y else q) := by
          split
          · exact ⟨leSpot_up ho hq hs (by omega) hb, comeAt_ok hq (by omega) hb⟩
          · exact ⟨hs, hq⟩
        split
        · exact leSpot_up ho hA.2 hA.1 (by omega) hb
        · exact hA.1
  by_cases e : (o.getD i dSpot).1.1 = false
  · have : stepSpan p o i = o := by unfold stepSpan; dsimp only; rw [if_pos e]
    rw [this]; exact up
  · have er : (o.getD i dSpot).1.1 = true := by simpa using e
    obtain ⟨g1, g2⟩ := hsi er
    have e2 : ¬ (q.getD i dSpot).1.1 = false := by rw [g1]; simp
    have ha : validB (o.getD i dSpot).2.1 = true := by
      rcases hoi with g | g
      · exact g.2
      · exact absurd g.1 e
    have hb : validB (q.getD i dSpot).2.1 = true := by
      rcases hqi with g | g
      · exact g.2
      · exact absurd g.1 e2
    unfold stepSpan
    dsimp only
    rw [if_neg e, if_neg e2]
    by_cases h7 : (p.getD i dLin).1 ≠ 7
    · rw [if_pos h7, if_pos h7]
      exact leSpot_both ho hq hs (by omega) (afterBox_ok hl ha) (afterBox_ok hl hb) (afterBox_mono hl ha hb g2)
    · rw [if_neg h7, if_neg h7]
      have ht := skip_to h hi (by simpa using h7)
      generalize (o.getD i dSpot).2.1 = x at *
      generalize (q.getD i dSpot).2.1 = y at *
      have hA := leBox_Rd g2 (p.getD i dLin).2.2.1
      have hB := leBox_Rd g2 (p.getD i dLin).2.2.2.1
      have hto : (min ((i : Int) + 1 + (p.getD i dLin).2.1) (p.length : Int)).toNat ≤ p.length := by omega
      have h1 : leSpots (if (p.getD i dLin).2.2.1 = (p.getD i dLin).2.2.2.1 ∨ (Rd x (p.getD i dLin).2.2.2.1).1 ≤ (Rd x (p.getD i dLin).2.2.1).2.1 then comeAt o (i + 1) x else o)
          (if (p.getD i dLin).2.2.1 = (p.getD i dLin).2.2.2.1 ∨ (Rd y (p.getD i dLin).2.2.2.1).1 ≤ (Rd y (p.getD i dLin).2.2.1).2.1 then comeAt q (i + 1) y else q) ∧
          outOK p.length (if (p.getD i dLin).2.2.1 = (p.getD i dLin).2.2.2.1 ∨ (Rd x (p.getD i dLin).2.2.2.1).1 ≤ (Rd x (p.getD i dLin).2.2.1).2.1 then comeAt o (i + 1) x else o) ∧
          outOK p.length (if (p.getD i dLin).2.2.1 = (p.getD i dLin).2.2.2.1 ∨ (Rd y (p.getD i dLin).2.2.2.1).1 ≤ (Rd y (p.getD i dLin).2.2.1).2.1 then comeAt q (i + 1) y else q) := by
        by_cases c : (p.getD i dLin).2.2.1 = (p.getD i dLin).2.2.2.1 ∨ (Rd x (p.getD i dLin).2.2.2.1).1 ≤ (Rd x (p.getD i dLin).2.2.1).2.1
        · rw [if_pos c, if_pos (by omega)]
          exact ⟨leSpot_both ho hq hs (by omega) ha hb g2, comeAt_ok ho (by omega) ha, comeAt_ok hq (by omega) hb⟩
        · rw [if_neg c]
          split
          · exact ⟨leSpot_up ho hq hs (by omega) hb, ho, comeAt_ok hq (by omega) hb⟩
          · exact ⟨hs, ho, hq⟩
      obtain ⟨h1, h2, h3⟩ := h1
      generalize (if (p.getD i dLin).2.2.1 = (p.getD i dLin).2.2.2.1 ∨ (Rd x (p.getD i dLin).2.2.2.1).1 ≤ (Rd x (p.getD i dLin).2.2.1).2.1 then comeAt o (i + 1) x else o) = o1 at *
      generalize (if (p.getD i dLin).2.2.1 = (p.getD i dLin).2.2.2.1 ∨ (Rd y (p.getD i dLin).2.2.2.1).1 ≤ (Rd y (p.getD i dLin).2.2.1).2.1 then comeAt q (i + 1) y else q) = q1 at *
      by_cases c : (p.getD i dLin).2.2.1 ≠ (p.getD i dLin).2.2.2.1 ∧ (Rd x (p.getD i dLin).2.2.1).1 < (Rd x (p.getD i dLin).2.2.2.1).2.1
      · rw [if_pos c, if_pos ⟨c.1, by omega⟩]
        exact leSpot_both h2 h3 h1 hto ha hb g2
      · rw [if_neg c]
        split
        · exact leSpot_up h2 h3 h1 hto hb
        · exact h1

theorem mono_to {p : List Lin} (h : p.all validLine = true) {a b : List Rng} (ha : validB a = true) (hb : validB b = true) (hab : leBox a b) : ∀ k, k ≤ p.length → leSpots (spansTo p a k) (spansTo p b k)
  | 0, _ => by
    have h0 : outOK p.length (List.replicate (p.length + 1) dSpot) := ⟨by simp, fun s hs => by rw [List.eq_of_mem_replicate hs]; exact .inr ⟨rfl, rfl⟩⟩
    refine leSpot_both h0 h0 (fun j hr => ?_) (Nat.zero_le _) ha hb hab
    rw [List.getD_eq_getElem?_getD, List.getElem?_replicate] at hr
    split at hr <;> cases hr
  | k + 1, hk => by
    rw [spansTo_succ, spansTo_succ]
    exact mono_step h (spansTo_ok h ha k (by omega)) (spansTo_ok h hb k (by omega)) (mono_to h ha hb hab k (by omega)) (by omega)

theorem after_mono {p : List Lin} (h : p.all validLine = true) {a b : List Rng} (ha : validB a = true) (hb : validB b = true) (hab : join hull2 a b = b) : join hull2 (afterB p a) (afterB p b) = afterB p b := by
  rw [leBox_iff (afterB_ok h ha) (afterB_ok h hb)]
  exact (mono_to h ha hb ((leBox_iff ha hb).1 hab) p.length (Nat.le_refl _) p.length (reach_end h ha)).2

end Go.Tk
