/- Plain facts: the reference's spans lead to the same boxes. No program in sight. -/
import Derived.Test.YtookhknbjofmkaaP6
set_option linter.unusedSimpArgs false
set_option linter.unusedVariables false
namespace Go.Tk
open Go Go.RowKit

abbrev Bxs := List (List Rng)
def hullL (l : Bxs) : List Rng := (l.drop 1).foldl (join hull2) (l.getD 0 [])
def comeL (out : List Bxs) (j : Nat) (b : List Rng) : List Bxs := out.set j (out.getD j [] ++ [b])
def refStep (p : List Lin) (out : List Bxs) (i : Nat) : List Bxs :=
  let s := out.getD i []
  let l := p.getD i dLin
  let now := hullL s
  if s = [] then out
  else if l.1 ≠ 7 then comeL out (i + 1) (afterBox l now)
  else
    let x := Rd now l.2.2.1
    let y := Rd now l.2.2.2.1
    let out1 := if l.2.2.1 = l.2.2.2.1 ∨ y.1 ≤ x.2.1 then comeL out (i + 1) now else out
    if l.2.2.1 ≠ l.2.2.2.1 ∧ x.1 < y.2.1 then comeL out1 (min ((i : Int) + 1 + l.2.1) (p.length : Int)).toNat now else out1
def refTo (p : List Lin) (b : List Rng) (k : Nat) : List Bxs := (List.range k).foldl (refStep p) ((List.replicate (p.length + 1) []).set 0 [b])
def refSpans (p : List Lin) (b : List Rng) : List Bxs := refTo p b p.length

theorem refTo_succ (p : List Lin) (b : List Rng) (k : Nat) : refTo p b (k + 1) = refStep p (refTo p b k) k := by
  unfold refTo
  rw [List.range_succ, List.foldl_append]; rfl

theorem hullL_snoc (l : Bxs) (b : List Rng) : hullL (l ++ [b]) = if l = [] then b else join hull2 (hullL l) b := by
  cases l with
  | nil => rfl
  | cons a l =>
    rw [if_neg (by simp)]
    unfold hullL
    simp [List.foldl_append]

/-- The boxes that come to a line are those of which its spot is made. -/
def SimS (l : Bxs) (s : Spot) : Prop := (l = [] ∧ s = dSpot) ∨ (l ≠ [] ∧ s = ((true, ()), hullL l, ()))
def SimO (n : Nat) (o : List Bxs) (q : List Spot) : Prop := o.length = n + 1 ∧ q.length = n + 1 ∧ ∀ j, j ≤ n → SimS (o.getD j []) (q.getD j dSpot) ∧ ∀ b ∈ o.getD j [], validB b = true

theorem simO_come {n : Nat} {o : List Bxs} {q : List Spot} (h : SimO n o q) {j : Nat} (hj : j ≤ n) {b : List Rng} (hb : validB b = true) : SimO n (comeL o j b) (comeAt q j b) := by
  obtain ⟨h1, h2, h3⟩ := h
  unfold comeL comeAt
  refine ⟨by simp [h1], by simp [h2], fun k hk => ?_⟩
  by_cases e : j = k
  · subst e
    obtain ⟨g1, g2⟩ := h3 j hj
    have e1 : (o.set j (o.getD j [] ++ [b])).getD j [] = o.getD j [] ++ [b] := by simp [List.getD_eq_getElem?_getD, List.getElem?_set, h1, Nat.lt_succ_of_le hj]
    have e2 : (q.set j (comeS (q.getD j dSpot) b)).getD j dSpot = comeS (q.getD j dSpot) b := by simp [List.getD_eq_getElem?_getD, List.getElem?_set, h2, Nat.lt_succ_of_le hj]
    rw [e1, e2]
    refine ⟨.inr ⟨by simp, ?_⟩, fun c hc => ?_⟩
    · rw [hullL_snoc]
      rcases g1 with ⟨g, g'⟩ | ⟨g, g'⟩
      · rw [g', if_pos g]; rfl
      · rw [g', if_neg g]; rfl
    · rcases List.mem_append.1 hc with hc | hc
      · exact g2 c hc
      · simp at hc; rw [hc]; exact hb
  · have e1 : (o.set j (o.getD j [] ++ [b])).getD k [] = o.getD k [] := by simp [List.getD_eq_getElem?_getD, List.getElem?_set, e]
    have e2 : (q.set j (comeS (q.getD j dSpot) b)).getD k dSpot = q.getD k dSpot := by simp [List.getD_eq_getElem?_getD, List.getElem?_set, e]
    rw [e1, e2]
    exact h3 k hk

theorem hullL_ok : ∀ {l : Bxs}, l ≠ [] → (∀ b ∈ l, validB b = true) → validB (hullL l) = true
  | [], h, _ => absurd rfl h
  | a :: l, hne, h => by
    show validB (l.foldl (join hull2) a) = true
    have ha := h a (by simp)
    have hl : ∀ b ∈ l, validB b = true := fun b hb => h b (by simp [hb])
    clear h hne
    induction l generalizing a with
    | nil => exact ha
    | cons c l ih => exact ih _ (join_ok ha (hl c (by simp))) fun b hb => hl b (by simp [hb])

theorem sim_step {p : List Lin} (h : p.all validLine = true) {o : List Bxs} {q : List Spot} (hs : SimO p.length o q) {i : Nat} (hi : i < p.length) : SimO p.length (refStep p o i) (stepSpan p q i) := by
  obtain ⟨g1, g2⟩ := hs.2.2 i (by omega)
  have hl := validLine_getD h hi
  unfold refStep stepSpan
  dsimp only
  rcases g1 with ⟨g, g'⟩ | ⟨g, g'⟩
  · rw [if_pos g, g', if_pos (by rfl)]; exact hs
  · rw [if_neg g, g', if_neg (show ¬ (((true, ()), hullL (o.getD i []), ()) : Spot).1.1 = false by simp)]
    have hb : validB (hullL (o.getD i [])) = true := hullL_ok g g2
    dsimp only
    by_cases h7 : (p.getD i dLin).1 ≠ 7
    · rw [if_pos h7, if_pos h7]
      exact simO_come hs (by omega) (afterBox_ok hl hb)
    · rw [if_neg h7, if_neg h7]
      have ht := skip_to h hi (by simpa using h7)
      generalize hullL (o.getD i []) = now at *
      have hA : SimO p.length (if (p.getD i dLin).2.2.1 = (p.getD i dLin).2.2.2.1 ∨ (Rd now (p.getD i dLin).2.2.2.1).1 ≤ (Rd now (p.getD i dLin).2.2.1).2.1 then comeL o (i + 1) now else o)
          (if (p.getD i dLin).2.2.1 = (p.getD i dLin).2.2.2.1 ∨ (Rd now (p.getD i dLin).2.2.2.1).1 ≤ (Rd now (p.getD i dLin).2.2.1).2.1 then comeAt q (i + 1) now else q) := by
        split
        · exact simO_come hs (by omega) hb
        · exact hs
      split
      · exact simO_come hA (by omega) hb
      · exact hA

theorem sim_to {p : List Lin} (h : p.all validLine = true) {b : List Rng} (hb : validB b = true) : ∀ k, k ≤ p.length → SimO p.length (refTo p b k) (spansTo p b k)
  | 0, _ => by
    have h0 : SimO p.length (List.replicate (p.length + 1) []) (List.replicate (p.length + 1) dSpot) := by
      refine ⟨by simp, by simp, fun j hj => ?_⟩
      have e1 : (List.replicate (p.length + 1) ([] : Bxs)).getD j [] = [] := by simp [List.getD_eq_getElem?_getD, List.getElem?_replicate]; split <;> rfl
      have e2 : (List.replicate (p.length + 1) dSpot).getD j dSpot = dSpot := by simp [List.getD_eq_getElem?_getD, List.getElem?_replicate]; split <;> rfl
      rw [e1, e2]
      exact ⟨.inl ⟨rfl, rfl⟩, fun b hb => by simp at hb⟩
    have := simO_come h0 (Nat.zero_le _) hb
    exact this
  | k + 1, hk => by
    rw [refTo_succ, spansTo_succ]
    exact sim_step h (sim_to h hb k (by omega)) (by omega)

theorem sim_spans {p : List Lin} (h : p.all validLine = true) {b : List Rng} (hb : validB b = true) {j : Nat} (hj : j ≤ p.length) :
    SimS ((refSpans p b).getD j []) ((spans p b).getD j dSpot) ∧ ∀ c ∈ (refSpans p b).getD j [], validB c = true := (sim_to h hb p.length (Nat.le_refl _)).2.2 j hj

theorem refTo_len {p : List Lin} (h : p.all validLine = true) {b : List Rng} (hb : validB b = true) {k : Nat} (hk : k ≤ p.length) : (refTo p b k).length = p.length + 1 := (sim_to h hb k hk).1

/-! The end is always reached. -/
def reachedAt (q : List Spot) (j : Nat) : Prop := (q.getD j dSpot).1.1 = true

theorem comeAt_get (q : List Spot) (j k : Nat) (b : List Rng) (hj : j < q.length) : (comeAt q j b).getD k dSpot = if j = k then comeS (q.getD j dSpot) b else q.getD k dSpot := by
  unfold comeAt
  split
  · rename_i e; subst e; simp [List.getD_eq_getElem?_getD, List.getElem?_set, hj]
  · rename_i e; simp [List.getD_eq_getElem?_getD, List.getElem?_set, e]

theorem comeS_reached (s : Spot) (b : List Rng) : (comeS s b).1.1 = true := by
  unfold comeS
  split
  · assumption
  · rfl

/-- Some line from i on, or the end, is reached. -/
theorem reach_next {p : List Lin} (h : p.all validLine = true) {q : List Spot} (hq : outOK p.length q) {i : Nat} (hi : i < p.length) (hr : ∃ j, i ≤ j ∧ j ≤ p.length ∧ reachedAt q j) : ∃ j, i + 1 ≤ j ∧ j ≤ p.length ∧ reachedAt (stepSpan p q i) j := by
  have keep : ∀ (o : List Spot) (j k : Nat) (b : List Rng), o.length = p.length + 1 → j ≤ p.length → reachedAt o k → reachedAt (comeAt o j b) k := by
    intro o j k b ho hj hk
    unfold reachedAt at *
    rw [comeAt_get _ _ _ _ (by omega)]
    split
    · exact comeS_reached _ _
    · exact hk
  have new : ∀ (o : List Spot) (j : Nat) (b : List Rng), o.length = p.length + 1 → j ≤ p.length → reachedAt (comeAt o j b) j := by
    intro o j b ho hj
    unfold reachedAt
    rw [comeAt_get _ _ _ _ (by omega), if_pos rfl]
    exact comeS_reached _ _
  have hlen : ∀ (o : List Spot) (j : Nat) (b : List Rng), (comeAt o j b).length = o.length := fun o j b => by unfold comeAt; simp
  have hq1 := hq.1
  obtain ⟨j, h1, h2, h3⟩ := hr
  unfold stepSpan
  dsimp only
  have hsOK := outOK_get hq (i := i) (by omega)
  by_cases e : (q.getD i dSpot).1.1 = false
  · rw [if_pos e]
    refine ⟨j, ?_, h2, h3⟩
    rcases Nat.lt_or_ge i j with g | g
    · exact g
    · have : i = j := by omega
      subst this
      unfold reachedAt at h3
      rw [h3] at e; cases e
  · rw [if_neg e]
    have hvb : validB (q.getD i dSpot).2.1 = true := by
      rcases hsOK with g | g
      · exact g.2
      · exact absurd g.1 e
    by_cases h7 : (p.getD i dLin).1 ≠ 7
    · rw [if_pos h7]
      exact ⟨i + 1, Nat.le_refl _, by omega, new _ _ _ hq1 (by omega)⟩
    · rw [if_neg h7]
      have h7 : (p.getD i dLin).1 = 7 := by simpa using h7
      have ht := skip_to h hi h7
      have hl := validLine_getD h hi
      have hreg : (0 ≤ (p.getD i dLin).2.2.1 ∧ (p.getD i dLin).2.2.1 ≤ 3) ∧ (0 ≤ (p.getD i dLin).2.2.2.1 ∧ (p.getD i dLin).2.2.2.1 ≤ 3) := by
        generalize p.getD i dLin = l at *
        obtain ⟨op, t, x, y, ⟨⟩⟩ := l
        dsimp only at h7
        have g := validLine_regs hl
        exact ⟨g.1 (by omega), g.2.1 (by omega)⟩
      have gx := validB_get hvb hreg.1.1 hreg.1.2
      have gy := validB_get hvb hreg.2.1 hreg.2.2
      generalize (q.getD i dSpot).2.1 = s at *
      by_cases c1 : (p.getD i dLin).2.2.1 = (p.getD i dLin).2.2.2.1 ∨ (Rd s (p.getD i dLin).2.2.2.1).1 ≤ (Rd s (p.getD i dLin).2.2.1).2.1
      · rw [show (if (p.getD i dLin).2.2.1 = (p.getD i dLin).2.2.2.1 ∨ (Rd s (p.getD i dLin).2.2.2.1).1 ≤ (Rd s (p.getD i dLin).2.2.1).2.1 then comeAt q (i + 1) s else q) = comeAt q (i + 1) s from if_pos c1]
        refine ⟨i + 1, Nat.le_refl _, by omega, ?_⟩
        split
        · exact keep _ _ _ _ (by rw [hlen]; exact hq1) (by omega) (new _ _ _ hq1 (by omega))
        · exact new _ _ _ hq1 (by omega)
      · rw [show (if (p.getD i dLin).2.2.1 = (p.getD i dLin).2.2.2.1 ∨ (Rd s (p.getD i dLin).2.2.2.1).1 ≤ (Rd s (p.getD i dLin).2.2.1).2.1 then comeAt q (i + 1) s else q) = q from if_neg c1]
        rw [if_pos (by omega)]
        exact ⟨(min ((i : Int) + 1 + (p.getD i dLin).2.1) (p.length : Int)).toNat, by omega, by omega, new _ _ _ hq1 (by omega)⟩

theorem reach_to {p : List Lin} (h : p.all validLine = true) {b : List Rng} (hb : validB b = true) : ∀ k, k ≤ p.length → ∃ j, k ≤ j ∧ j ≤ p.length ∧ reachedAt (spansTo p b k) j
  | 0, _ => by
    refine ⟨0, Nat.le_refl _, Nat.zero_le _, ?_⟩
    unfold reachedAt spansTo
    show ((comeAt (List.replicate (p.length + 1) dSpot) 0 b).getD 0 dSpot).1.1 = true
    rw [comeAt_get _ _ _ _ (by simp), if_pos rfl]
    exact comeS_reached _ _
  | k + 1, hk => by
    rw [spansTo_succ]
    exact reach_next h (spansTo_ok h hb k (by omega)) (by omega) (reach_to h hb k (by omega))

theorem reach_end {p : List Lin} (h : p.all validLine = true) {b : List Rng} (hb : validB b = true) : ((spans p b).getD p.length dSpot).1.1 = true := by
  obtain ⟨j, h1, h2, h3⟩ := reach_to h hb p.length (Nat.le_refl _)
  obtain rfl : j = p.length := by omega
  exact h3

def afterB (p : List Lin) (b : List Rng) : List Rng := ((spans p b).getD p.length dSpot).2.1

theorem afterB_ok {p : List Lin} (h : p.all validLine = true) {b : List Rng} (hb : validB b = true) : validB (afterB p b) = true := by
  rcases outOK_get (spansTo_ok h hb p.length (Nat.le_refl _)) (i := p.length) (Nat.le_refl _) with g | g
  · exact g.2
  · have := reach_end h hb
    unfold spans at this
    rw [g.1] at this; cases this

theorem hullL_after {p : List Lin} (h : p.all validLine = true) {b : List Rng} (hb : validB b = true) : (refSpans p b).getD p.length [] ≠ [] ∧ hullL ((refSpans p b).getD p.length []) = afterB p b := by
  have hr := reach_end h hb
  rcases (sim_spans h hb (j := p.length) (Nat.le_refl _)).1 with ⟨_, g⟩ | ⟨g1, g2⟩
  · rw [g] at hr; cases hr
  · exact ⟨g1, by unfold afterB; rw [g2]⟩

def err6 (p : List Lin) (b : List Rng) : Int := if validP p = 0 then argErr (validB b) else validP p
theorem err6_ok {p : List Lin} {b : List Rng} (h : err6 p b = 0) : validP p = 0 ∧ validB b = true := by
  unfold err6 at h
  split at h
  · exact ⟨by assumption, argErr_zero.1 h⟩
  · rename_i g; exact absurd h g
def midR (r : Rng) : Int := (r.1 + r.2.1) / 2
def halfErr (b : List Rng) (i : Int) : Int := if validB b = true ∧ 0 ≤ i ∧ i ≤ 3 then (if (Rd b i).1 = (Rd b i).2.1 then 6 else 0) else 1
def halfLow (b : List Rng) (i : Int) : List Rng := if halfErr b i = 0 then b.set i.toNat ((Rd b i).1, midR (Rd b i), ()) else []
def halfHigh (b : List Rng) (i : Int) : List Rng := if halfErr b i = 0 then b.set i.toNat (midR (Rd b i) + 1, (Rd b i).2.1, ()) else []

def hasB (b : List Rng) (s : List Int) : Bool := (List.zipWith (fun r n => within n r.1 r.2.1) b s).all id
theorem zipAll_next {α β : Type} (g : α → β → Bool) {a : List α} {b : List β} {i : Nat} (da : α) (db : β) (ha : i < a.length) (hb : i < b.length) (h : ((List.zipWith g a b).take i).all id = true) (h2 : g (a.getD i da) (b.getD i db) = true) : ((List.zipWith g a b).take (i + 1)).all id = true := by
  have hl : i < (List.zipWith g a b).length := by simp; omega
  refine all_take_next true hl h ?_
  simpa [List.getD_eq_getElem?_getD, List.getElem?_zipWith, ha, hb] using h2

theorem zipAll_false {α β : Type} (g : α → β → Bool) {a : List α} {b : List β} {i : Nat} (da : α) (db : β) (ha : i < a.length) (hb : i < b.length) (h2 : g (a.getD i da) (b.getD i db) = false) : (List.zipWith g a b).all id = false := by
  have hl : i < (List.zipWith g a b).length := by simp; omega
  refine all_false_at true hl ?_
  simpa [List.getD_eq_getElem?_getD, List.getElem?_zipWith, ha, hb] using h2

theorem zip_snoc2 {α β γ : Type} (g : α → β → γ) {a : List α} {b : List β} {i : Nat} (da : α) (db : β) (ha : i < a.length) (hb : i < b.length) : (List.zipWith g a b).take (i + 1) = (List.zipWith g a b).take i ++ [g (a.getD i da) (b.getD i db)] := by
  have hl : i < (List.zipWith g a b).length := by simp; omega
  rw [take_snoc (g da db) hl]
  simp [List.getD_eq_getElem?_getD, List.getElem?_zipWith, ha, hb]

theorem sum_next (l : List Int) {i : Nat} (h : i < l.length) : (l.take (i + 1)).sum = (l.take i).sum + l.getD i 0 := by
  rw [take_snoc 0 h, List.sum_append]; simp

theorem join_eq_iff {a b : List Rng} (h : a.length = b.length) : join hull2 a b = b ↔ ∀ i, i < a.length → (b.getD i tR.dflt).1 ≤ (a.getD i tR.dflt).1 ∧ (a.getD i tR.dflt).2.1 ≤ (b.getD i tR.dflt).2.1 := by
  constructor
  · intro e i hi
    have hb : i < b.length := by omega
    have := congrArg (fun l => List.getD l i tR.dflt) e
    simp only [join, List.getD_eq_getElem?_getD, List.getElem?_zipWith, List.getElem?_eq_getElem hi, List.getElem?_eq_getElem hb, Option.getD_some] at this
    simp only [List.getD_eq_getElem?_getD, List.getElem?_eq_getElem hi, List.getElem?_eq_getElem hb, Option.getD_some]
    unfold hull2 at this
    have h1 := congrArg (fun (x : Rng) => x.1) this
    have h2 := congrArg (fun (x : Rng) => x.2.1) this
    dsimp only at h1 h2
    omega
  · intro hh
    refine List.ext_getElem (by simp [join, h]) fun i h1 h2 => ?_
    have hi : i < a.length := by omega
    have g := hh i hi
    simp only [List.getD_eq_getElem?_getD, List.getElem?_eq_getElem hi, List.getElem?_eq_getElem h2, Option.getD_some] at g
    simp only [join, List.getElem_zipWith, hull2]
    have e1 : min (a[i]).1 (b[i]).1 = (b[i]).1 := by omega
    have e2 : max (a[i]).2.1 (b[i]).2.1 = (b[i]).2.1 := by omega
    rw [e1, e2]

def hasOK (b : List Rng) (s : List Int) : Bool := validB b && validS s
def twoOK (a b : List Rng) : Bool := validB a && validB b
def meetB (a b : List Rng) : List Rng := if twoOK a b && validB (join meet2 a b) then join meet2 a b else []
def boxOf (l h : List Int) : List Rng := List.zipWith (fun x y => (x, y, ())) l h
def sizeB (b : List Rng) : Int := (b.map fun r => r.2.1 - r.1).sum

end Go.Tk
