/- Plain facts of layer 8: essential and needless rows. No program in sight. -/
import Derived.Test.YtmedjckknalpbaaP8e
set_option linter.unusedSimpArgs false
set_option linter.unusedVariables false
set_option linter.unnecessarySimpa false
namespace Go.Tk
open Go Go.RowKit

theorem filt_le {α : Type} {p q : α → Bool} : ∀ {l : List α}, (∀ x ∈ l, p x = true → q x = true) → (l.filter p).length ≤ (l.filter q).length
  | [], _ => Nat.le_refl _
  | x :: l, h => by
    have ih := filt_le (p := p) (q := q) (l := l) fun y hy => h y (by simp [hy])
    have hx := h x (by simp)
    cases hp : p x
    · cases hq : q x <;> simp [List.filter_cons, hp, hq] <;> omega
    · simp [List.filter_cons, hp, hx hp]; omega
theorem filt_congr {α : Type} {p q : α → Bool} {l : List α} (h : ∀ x ∈ l, p x = q x) : l.filter p = l.filter q := List.filter_congr h
/-- How many are in one, in both, in one alone. -/
theorem cnt5 {α : Type} (A B : α → Bool) : ∀ l : List α, (l.filter fun x => A x || B x).length = (l.filter A).length + (l.filter fun x => !A x && B x).length ∧ (l.filter B).length + (l.filter fun x => A x && !B x).length = (l.filter A).length + (l.filter fun x => !A x && B x).length
  | [] => ⟨rfl, rfl⟩
  | x :: l => by
    obtain ⟨h1, h2⟩ := cnt5 A B l
    cases hA : A x <;> cases hB : B x <;> simp [List.filter_cons, hA, hB] <;> omega

theorem metL_length (t : Ste) (l : List Int) : (metL t l).length = ((List.range (goals8 t)).filter fun g => l.any fun r => hits t r g).length := by
  unfold metL; rw [List.length_map]
theorem met_mono {t : Ste} {l l' : List Int} (h : ∀ r ∈ l, r ∈ l') : (metL t l).length ≤ (metL t l').length := by
  rw [metL_length, metL_length]
  refine filt_le fun g _ hg => ?_
  rw [List.any_eq_true] at hg ⊢
  obtain ⟨r, hr, e⟩ := hg
  exact ⟨r, h r hr, e⟩
theorem met_le_open {t : Ste} {l : List Int} (h : inT t l) : (metL t l).length ≤ (openL t).length := met_mono fun r hr => nums_mem.2 (h r hr)

def valT (t : Ste) (r : Int) (g : Nat) : Int := (t.getD r.toNat []).getD g 0
theorem val01 {t : Ste} (h : okT t) {r : Int} {g : Nat} (hr : 0 ≤ r ∧ r < t.length) (hg : g < goals8 t) : valT t r g = 0 ∨ valT t r g = 1 := by
  unfold valT
  have h1 := okT_row h (i := r.toNat) (by omega)
  exact (h.2.2 _ (mem_getD (d := []) (i := r.toNat) (by omega))).2 _ (mem_getD (by omega))
def cntM (t : Ste) (a b : Int) (k : Nat) : Nat := ((List.range k).filter fun g => decide (valT t a g > valT t b g)).length
def cntL (t : Ste) (a b : Int) (k : Nat) : Nat := ((List.range k).filter fun g => decide (valT t a g < valT t b g)).length
theorem cntM_succ (t : Ste) (a b : Int) (k : Nat) : cntM t a b (k + 1) = if valT t a k > valT t b k then cntM t a b k + 1 else cntM t a b k := by
  unfold cntM
  rw [List.range_succ, List.filter_append, List.length_append]
  by_cases h : valT t a k > valT t b k <;> simp [h]
theorem cntL_succ (t : Ste) (a b : Int) (k : Nat) : cntL t a b (k + 1) = if valT t a k < valT t b k then cntL t a b k + 1 else cntL t a b k := by
  unfold cntL
  rw [List.range_succ, List.filter_append, List.length_append]
  by_cases h : valT t a k < valT t b k <;> simp [h]
theorem cntM_le (t : Ste) (a b : Int) (k : Nat) : cntM t a b k ≤ k := Nat.le_trans (List.length_filter_le ..) (by simp)
theorem cntL_le (t : Ste) (a b : Int) (k : Nat) : cntL t a b k ≤ k := Nat.le_trans (List.length_filter_le ..) (by simp)

theorem met1_length (t : Ste) (a : Int) : (metL t [a]).length = ((List.range (goals8 t)).filter fun g => hits t a g).length := by
  rw [metL_length]
  congr 1
  exact filt_congr fun g _ => by simp
theorem met2_length (t : Ste) (a b : Int) : (metL t [a, b]).length = ((List.range (goals8 t)).filter fun g => hits t a g || hits t b g).length := by
  rw [metL_length]
  congr 1
  exact filt_congr fun g _ => by simp

theorem beats_eq {t : Ste} (h : okT t) {a b : Int} (ha : 0 ≤ a ∧ a < t.length) (hb : 0 ≤ b ∧ b < t.length) : beatsB t a b = (!(a == b) && (decide (cntL t a b (goals8 t) = 0) && (decide (cntM t a b (goals8 t) > 0) || decide (a < b)))) := by
  unfold beatsB
  rw [met1_length, met1_length, met2_length]
  obtain ⟨h1, h2⟩ := cnt5 (hits t a) (hits t b) (List.range (goals8 t))
  have eM : cntM t a b (goals8 t) = ((List.range (goals8 t)).filter fun g => hits t a g && !hits t b g).length := by
    unfold cntM
    congr 1
    refine filt_congr fun g hg => ?_
    rw [List.mem_range] at hg
    have q1 := val01 h ha hg
    have q2 := val01 h hb hg
    unfold hits
    unfold valT at q1 q2 ⊢
    rcases q1 with e | e <;> rcases q2 with e' | e' <;> rw [e, e'] <;> decide
  have eL : cntL t a b (goals8 t) = ((List.range (goals8 t)).filter fun g => !hits t a g && hits t b g).length := by
    unfold cntL
    congr 1
    refine filt_congr fun g hg => ?_
    rw [List.mem_range] at hg
    have q1 := val01 h ha hg
    have q2 := val01 h hb hg
    unfold hits
    unfold valT at q1 q2 ⊢
    rcases q1 with e | e <;> rcases q2 with e' | e' <;> rw [e, e'] <;> decide
  rw [eM, eL]
  generalize ((List.range (goals8 t)).filter fun g => hits t a g || hits t b g).length = ab at h1 ⊢
  generalize ((List.range (goals8 t)).filter fun g => hits t a g && !hits t b g).length = m at h2 ⊢
  generalize ((List.range (goals8 t)).filter fun g => !hits t a g && hits t b g).length = s at h1 h2 ⊢
  generalize ((List.range (goals8 t)).filter fun g => hits t a g).length = x at h1 h2 ⊢
  generalize ((List.range (goals8 t)).filter fun g => hits t b g).length = y at h2 ⊢
  rw [Bool.and_assoc]
  congr 1
  by_cases hs : s = 0
  · have e1 : decide (x = ab) = true := by simp; omega
    have e2 : decide (s = 0) = true := by simp [hs]
    rw [e1, e2]
    congr 2
    rw [decide_eq_decide]; omega
  · have e1 : decide (x = ab) = false := by simp; omega
    have e2 : decide (s = 0) = false := by simp [hs]
    rw [e1, e2]; rfl

theorem beats_sub {t : Ste} {a b : Int} (h : beatsB t a b = true) : a ≠ b ∧ ∀ g, g < goals8 t → hits t b g = true → hits t a g = true := by
  unfold beatsB at h
  simp only [Bool.and_eq_true, Bool.not_eq_true', beq_eq_false_iff_ne, decide_eq_true_eq] at h
  refine ⟨h.1.1, fun g hg hb => ?_⟩
  have h1 := h.1.2
  rw [met1_length, met2_length] at h1
  obtain ⟨h2, _⟩ := cnt5 (hits t a) (hits t b) (List.range (goals8 t))
  have h2 : ((List.range (goals8 t)).filter fun g => hits t a g || hits t b g).length = ((List.range (goals8 t)).filter fun g => hits t a g).length + ((List.range (goals8 t)).filter fun x => !hits t a x && hits t b x).length := h2
  cases ha : hits t a g
  · have hz : ((List.range (goals8 t)).filter fun x => !hits t a x && hits t b x) = [] := List.eq_nil_of_length_eq_zero (by omega)
    have := (List.filter_eq_nil_iff.1 hz) g (List.mem_range.2 hg)
    rw [ha, hb] at this
    simp at this
  · rfl

/-- A row that another one beats is no essential one. -/
theorem beaten_cover {t : Ste} {k r : Int} (hk : 0 ≤ k ∧ k < t.length) (h : beatsB t k r = true) : coverB t (others t r) = true := by
  obtain ⟨hne, hsub⟩ := beats_sub h
  unfold coverB openL
  rw [decide_eq_true_eq, metL_length, metL_length]
  congr 1
  refine filt_congr fun g hg => ?_
  rw [List.mem_range] at hg
  rw [Bool.eq_iff_iff, List.any_eq_true, List.any_eq_true]
  constructor
  · rintro ⟨q, hq, e⟩
    exact ⟨q, (List.mem_filter.1 hq).1, e⟩
  · rintro ⟨q, hq, e⟩
    by_cases hqr : q = r
    · subst hqr
      exact ⟨k, List.mem_filter.2 ⟨nums_mem.2 hk, by simp [hne]⟩, hsub g hg e⟩
    · exact ⟨q, List.mem_filter.2 ⟨hq, by simp [hqr]⟩, e⟩
theorem ess_not_need {t : Ste} {r : Int} (h : r ∈ essT t) : ¬ r ∈ needT t := by
  intro hn
  obtain ⟨_, h1⟩ := List.mem_filter.1 h
  obtain ⟨_, h2⟩ := List.mem_filter.1 hn
  obtain ⟨k, hk, hb⟩ := List.any_eq_true.1 h2
  rw [beaten_cover (nums_mem.1 hk) hb] at h1
  cases h1

def essK (t : Ste) (k : Nat) : List Int := (nums k).filter fun r => !coverB t (others t r)
def needK (t : Ste) (k : Nat) : List Int := (nums k).filter fun r => (nums t.length).any fun k => beatsB t k r
def othK (r : Int) (k : Nat) : List Int := (nums k).filter fun i => !(i == r)
theorem filt_nums_succ (p : Int → Bool) (k : Nat) : (nums (k + 1)).filter p = if p (k : Int) = true then (nums k).filter p ++ [(k : Int)] else (nums k).filter p := by
  rw [nums_succ, List.filter_append]
  cases h : p (k : Int) <;> simp [h]
theorem filt_nums_len (p : Int → Bool) (k : Nat) : ((nums k).filter p).length ≤ k := Nat.le_trans (List.length_filter_le ..) (by rw [nums_len]; exact Nat.le_refl _)
theorem cover_lt {t : Ste} {l : List Int} (h : inT t l) : (!coverB t l) = decide ((metL t l).length < (openL t).length) := by
  have := met_le_open h
  unfold coverB
  by_cases e : (metL t l).length = (openL t).length
  · simp [e]
  · rw [show decide ((metL t l).length = (openL t).length) = false by simpa using e, show decide ((metL t l).length < (openL t).length) = true by simp; omega]; rfl

end Go.Tk
