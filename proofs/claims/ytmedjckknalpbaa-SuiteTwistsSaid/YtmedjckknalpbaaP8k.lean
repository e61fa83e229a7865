/- Plain facts of layer 8: rows that add nothing are left out. No program in sight. -/
import Derived.Test.YtmedjckknalpbaaP8x
set_option linter.unusedSimpArgs false
set_option linter.unusedVariables false
set_option linter.unnecessarySimpa false
namespace Go.Tk
open Go Go.RowKit

def bkI (xs : List Int) : Nat → List (Int × Int × Unit)
  | 0 => []
  | n + 1 => ((n : Int), xs.getD n 0, ()) :: bkI xs n
theorem bkI_len (h : List Int) : ∀ n, (bkI h n).length = n
  | 0 => rfl
  | n + 1 => by unfold bkI; rw [List.length_cons, bkI_len h n]
theorem bkI_get (h : List Int) : ∀ n k, k < n → (bkI h n)[k]? = some (((n - 1 - k : Nat) : Int), h.getD (n - 1 - k) 0, ())
  | 0, _, hk => by omega
  | n + 1, 0, hk => by unfold bkI; simp
  | n + 1, k + 1, hk => by
    unfold bkI
    rw [List.getElem?_cons_succ, bkI_get h n k (by omega), show n + 1 - 1 - (k + 1) = n - 1 - k by omega]

def cutAt (l : List Int) (i : Nat) : List Int := l.take i ++ l.drop (i + 1)
def stepL (t : Ste) (goal : Nat) (out : List Int) (i : Nat) : List Int := if (metL t (cutAt out i)).length = goal then cutAt out i else out
def leastF (t : Ste) (goal : Nat) : Nat → List Int → List Int
  | 0, out => out
  | n + 1, out => leastF t goal n (stepL t goal out n)
def leastT (t : Ste) (l : List Int) : List Int := leastF t (metL t l).length l.length l

theorem cutAt_len {l : List Int} {i : Nat} (h : i < l.length) : (cutAt l i).length = l.length - 1 := by
  unfold cutAt
  rw [List.length_append, List.length_take, List.length_drop]; omega
theorem cutAt_sub (l : List Int) (i : Nat) : (cutAt l i).Sublist l := by
  unfold cutAt
  rw [← List.eraseIdx_eq_take_drop_succ]
  exact List.eraseIdx_sublist ..
theorem cutAt_drop {l : List Int} {i : Nat} (h : i < l.length) : (cutAt l i).drop i = l.drop (i + 1) := by
  unfold cutAt
  rw [List.drop_append, List.length_take, Nat.min_eq_left (by omega), Nat.sub_self, List.drop_zero, List.drop_eq_nil_of_le (by rw [List.length_take]; omega)]
  rfl
theorem stepL_sub (t : Ste) (goal : Nat) (out : List Int) (i : Nat) : (stepL t goal out i).Sublist out := by
  unfold stepL
  split
  · exact cutAt_sub _ _
  · exact List.Sublist.refl _
theorem stepL_len {t : Ste} {goal : Nat} {out : List Int} {i : Nat} (h : i < out.length) : i ≤ (stepL t goal out i).length := by
  unfold stepL
  split
  · rw [cutAt_len h]; omega
  · omega
theorem stepL_met {t : Ste} {goal : Nat} {out : List Int} {i : Nat} (h : (metL t out).length = goal) : (metL t (stepL t goal out i)).length = goal := by
  unfold stepL
  split
  · assumption
  · exact h
theorem drop_mem {l : List Int} {n : Nat} (h : n < l.length) {x : Int} (hx : x ∈ l.drop n) : x = l.getD n 0 ∨ x ∈ l.drop (n + 1) := by
  have e1 : l.drop n = l.getD n 0 :: l.drop (n + 1) := by rw [List.drop_eq_getElem_cons h]; simp [List.getD_eq_getElem?_getD, h]
  rw [e1] at hx
  exact List.mem_cons.1 hx
theorem mem_cut {l : List Int} {n : Nat} (h : n < l.length) {y : Int} (hy : y ∈ l) (hne : y ≠ l.getD n 0) : y ∈ cutAt l n := by
  unfold cutAt
  rw [← List.take_append_drop n l] at hy
  rcases List.mem_append.1 hy with hy | hy
  · exact List.mem_append.2 (.inl hy)
  · rcases drop_mem h hy with e | e
    · exact absurd e hne
    · exact List.mem_append.2 (.inr e)

/-- What is left: a part of it that meets the same, and of which nothing more can be left out. -/
theorem leastF_spec (t : Ste) (goal : Nat) : ∀ (n : Nat) (out : List Int), n ≤ out.length → (metL t out).length = goal →
    (leastF t goal n out).Sublist out ∧ (metL t (leastF t goal n out)).length = goal ∧ ∀ x ∈ leastF t goal n out, ¬ x ∈ out.drop n → ∀ L : List Int, (∀ y ∈ L, y ∈ leastF t goal n out ∧ y ≠ x) → (metL t L).length < goal
  | 0, out, _, hg => ⟨List.Sublist.refl _, hg, fun x hx hn => absurd (show x ∈ out from hx) (by simpa using hn)⟩
  | n + 1, out, hl, hg => by
    obtain ⟨h1, h2, h3⟩ := leastF_spec t goal n (stepL t goal out n) (stepL_len (by omega)) (stepL_met hg)
    refine ⟨h1.trans (stepL_sub _ _ _ _), h2, fun x hx hn L hL => ?_⟩
    change x ∈ leastF t goal n (stepL t goal out n) at hx
    change ∀ y ∈ L, y ∈ leastF t goal n (stepL t goal out n) ∧ y ≠ x at hL
    by_cases hc : (metL t (cutAt out n)).length = goal
    · have e : stepL t goal out n = cutAt out n := by unfold stepL; rw [if_pos hc]
      rw [e] at h3 hx hL
      refine h3 x hx ?_ L hL
      rw [cutAt_drop (by omega)]
      exact hn
    · have e : stepL t goal out n = out := by unfold stepL; rw [if_neg hc]
      rw [e] at h1 h3 hx hL
      by_cases hd : x ∈ out.drop n
      · have hxe : x = out.getD n 0 := (drop_mem (by omega) hd).resolve_right hn
        have hle : (metL t L).length ≤ (metL t (cutAt out n)).length := met_mono fun y hy => mem_cut (by omega) (h1.mem (hL y hy).1) (by rw [← hxe]; exact (hL y hy).2)
        have hle2 : (metL t (cutAt out n)).length ≤ (metL t out).length := met_mono fun y hy => (cutAt_sub out n).mem hy
        omega
      · exact h3 x hx hd L hL

theorem isSet8_pair {l : List Int} {n : Nat} : isSet8 l n = true ↔ l.Pairwise (· < ·) ∧ ∀ r ∈ l, 0 ≤ r ∧ r < n := by
  constructor
  · intro h
    have h0 := isSet8_iff.1 h
    refine ⟨?_, ?_⟩
    · rw [List.pairwise_iff_getElem]
      intro i j hi hj hij
      have key : ∀ k, i + k + 1 < l.length → l.getD i 0 < l.getD (i + k + 1) 0 := by
        intro k
        induction k with
        | zero => intro hk; exact ((h0 (i + 1) hk).2.resolve_left (by omega))
        | succ k ih =>
          intro hk
          have := ih (by omega)
          have h2 := (h0 (i + (k + 1) + 1) hk).2.resolve_left (by omega)
          rw [show i + (k + 1) + 1 - 1 = i + k + 1 by omega] at h2
          omega
      have := key (j - i - 1) (by omega)
      rw [show i + (j - i - 1) + 1 = j by omega] at this
      simpa [List.getD_eq_getElem?_getD, hi, hj] using this
    · intro r hr
      obtain ⟨i, hi, e⟩ := List.mem_iff_getElem.1 hr
      have := (h0 i hi).1
      rw [List.getD_eq_getElem?_getD, List.getElem?_eq_getElem hi, Option.getD_some, e] at this
      exact this
  · rintro ⟨h1, h2⟩
    rw [isSet8_iff]
    intro i hi
    refine ⟨h2 _ (mem_getD hi), ?_⟩
    by_cases h0 : i = 0
    · exact .inl h0
    · right
      have := (List.pairwise_iff_getElem.1 h1) (i - 1) i (by omega) hi (by omega)
      simpa [List.getD_eq_getElem?_getD, hi, show i - 1 < l.length by omega] using this

theorem filt_eq {α : Type} {p q : α → Bool} : ∀ {l : List α}, (∀ x ∈ l, p x = true → q x = true) → (l.filter p).length = (l.filter q).length → l.filter p = l.filter q
  | [], _, _ => rfl
  | x :: l, h, hl => by
    have hle := filt_le (p := p) (q := q) (l := l) fun y hy => h y (by simp [hy])
    have hx := h x (by simp)
    cases hp : p x <;> cases hq : q x
    · simp only [List.filter_cons, hp, hq, Bool.false_eq_true, if_false] at hl ⊢
      exact filt_eq (fun y hy => h y (by simp [hy])) hl
    · simp only [List.filter_cons, hp, hq, Bool.false_eq_true, if_false, if_true, List.length_cons] at hl
      omega
    · rw [hx hp] at hq; cases hq
    · simp only [List.filter_cons, hp, hq, if_true, List.length_cons] at hl ⊢
      rw [filt_eq (fun y hy => h y (by simp [hy])) (by omega)]
theorem met_eq {t : Ste} {l l' : List Int} (h : ∀ r ∈ l, r ∈ l') (hl : (metL t l).length = (metL t l').length) : metL t l = metL t l' := by
  rw [metL_length, metL_length] at hl
  unfold metL
  rw [filt_eq (fun g _ hg => by
    rw [List.any_eq_true] at hg ⊢
    obtain ⟨r, hr, e⟩ := hg
    exact ⟨r, h r hr, e⟩) hl]

theorem least_sub {t : Ste} {l : List Int} : (leastT t l).Sublist l := (leastF_spec t _ l.length l (Nat.le_refl _) rfl).1
theorem least_met {t : Ste} {l : List Int} : metL t (leastT t l) = metL t l := met_eq (fun r hr => least_sub.mem hr) (leastF_spec t _ l.length l (Nat.le_refl _) rfl).2.1
theorem leastF_same {t : Ste} {goal : Nat} {a : List Int} (h : ∀ i, i < a.length → (metL t (cutAt a i)).length ≠ goal) : ∀ n, n ≤ a.length → leastF t goal n a = a
  | 0, _ => rfl
  | n + 1, hn => by
    show leastF t goal n (stepL t goal a n) = a
    have e : stepL t goal a n = a := by unfold stepL; rw [if_neg (h n (by omega))]
    rw [e]
    exact leastF_same h n (by omega)
theorem least_again {t : Ste} {l : List Int} (hl : l.Pairwise (· < ·)) : leastT t (leastT t l) = leastT t l := by
  have hp : (leastT t l).Pairwise (· < ·) := hl.sublist least_sub
  have h3 := (leastF_spec t _ l.length l (Nat.le_refl _) rfl).2.2
  have hm := least_met (t := t) (l := l)
  show leastF t (metL t (leastT t l)).length (leastT t l).length (leastT t l) = leastT t l
  rw [hm]
  refine leastF_same (fun i hi => ?_) _ (Nat.le_refl _)
  have hx := mem_getD (d := 0) hi
  have := h3 _ hx (by simp) (cutAt (leastT t l) i) (fun y hy => ⟨(cutAt_sub _ _).mem hy, ?_⟩)
  · omega
  · rw [List.pairwise_iff_getElem] at hp
    have ex : (leastT t l).getD i 0 = (leastT t l)[i] := by simp [List.getD_eq_getElem?_getD, hi]
    rw [ex]
    unfold cutAt at hy
    rcases List.mem_append.1 hy with hy | hy
    · obtain ⟨j, hj, e⟩ := List.mem_take_iff_getElem.1 hy
      have := hp j i (by omega) hi (by omega)
      omega
    · obtain ⟨j, hj, e⟩ := List.mem_iff_getElem.1 hy
      rw [List.getElem_drop] at e
      rw [List.length_drop] at hj
      have := hp i (i + 1 + j) hi (by omega) (by omega)
      omega
theorem least_rows {t : Ste} {l : List Int} (h : rowsT t l = 0) (hv : validT t = 0) (hs : isSet8 l t.length = true) : rowsT t (leastT t l) = 0 := by
  obtain ⟨h1, h2⟩ := isSet8_pair.1 hs
  unfold rowsT
  rw [if_pos hv, argErr_zero]
  exact isSet8_pair.2 ⟨h1.sublist least_sub, fun r hr => h2 r (least_sub.mem hr)⟩

end Go.Tk
