/- Plain facts of layer 8: a suite without a goal. No program in sight. -/
import Derived.Test.YtmedjckknalpbaaP8t
set_option linter.unusedSimpArgs false
set_option linter.unusedVariables false
set_option linter.unnecessarySimpa false
namespace Go.Tk
open Go Go.RowKit

def cutG (g : Nat) (r : List Int) : List Int := r.take g ++ r.drop (g + 1)
def dropT (t : Ste) (g : Nat) : Ste := t.map (cutG g)
def backG (g k : Nat) : Nat := if k < g then k else k + 1

theorem cutG_len {g : Nat} {r : List Int} (h : g < r.length) : (cutG g r).length = r.length - 1 := by
  unfold cutG
  simp
  omega
theorem cutG_get {g : Nat} {r : List Int} (h : g < r.length) (k : Nat) : (cutG g r).getD k 0 = r.getD (backG g k) 0 := by
  unfold cutG backG
  simp only [List.getD_eq_getElem?_getD]
  congr 1
  by_cases hk : k < g
  · rw [if_pos hk, List.getElem?_append_left (by simp; omega), List.getElem?_take_of_lt hk]
  · rw [if_neg hk, List.getElem?_append_right (by simp; omega), List.getElem?_drop]
    congr 1
    simp
    omega
theorem drop_len (t : Ste) (g : Nat) : (dropT t g).length = t.length := by simp [dropT]
theorem drop_get {t : Ste} {g j : Nat} (hj : j < t.length) : (dropT t g).getD j [] = cutG g (t.getD j []) := by
  unfold dropT
  simp [List.getD_eq_getElem?_getD, hj]
theorem drop_goals {t : Ste} (h : okT t) {g : Nat} (hg : g < goals8 t) : goals8 (dropT t g) = goals8 t - 1 := by
  have h0 : 0 < t.length := by
    rcases Nat.eq_zero_or_pos t.length with q | q
    · rw [List.eq_nil_of_length_eq_zero q] at hg
      simp [goals8] at hg
    · exact q
  unfold goals8
  rw [drop_get h0]
  exact cutG_len hg
theorem drop_ok {t : Ste} (h : okT t) {g : Nat} (hg : g < goals8 t) : okT (dropT t g) := by
  refine ⟨by rw [drop_len]; exact h.1, by rw [drop_goals h hg]; have := h.2.1; omega, fun r hr => ?_⟩
  unfold dropT at hr
  obtain ⟨q, hq, rfl⟩ := List.mem_map.1 hr
  have h3 := h.2.2 q hq
  refine ⟨by rw [drop_goals h hg, cutG_len (by omega), h3.1], fun x hx => ?_⟩
  unfold cutG at hx
  rcases List.mem_append.1 hx with y | y
  · exact h3.2 x (List.mem_of_mem_take y)
  · exact h3.2 x (List.mem_of_mem_drop y)
theorem drop_hits {t : Ste} (h : okT t) {g : Nat} (hg : g < goals8 t) {r : Int} (hr : 0 ≤ r ∧ r < t.length) (k : Nat) : hits (dropT t g) r k = hits t r (backG g k) := by
  unfold hits
  rw [drop_get (by omega), cutG_get (by rw [okT_row h (by omega)]; exact hg)]
/-- What covers the suite covers it without a goal too. -/
theorem cover_iff {t : Ste} {l : List Int} (hl : inT t l) : coverB t l = true ↔ ∀ g, g < goals8 t → (∃ r ∈ nums t.length, hits t r g = true) → ∃ r ∈ l, hits t r g = true := by
  unfold coverB
  rw [decide_eq_true_eq, openL, metL_length, metL_length]
  constructor
  · intro h g hg ⟨r, hr, e⟩
    have he := filt_eq (p := fun g => l.any fun r => hits t r g) (q := fun g => (nums t.length).any fun r => hits t r g) (l := List.range (goals8 t)) (fun g hg q => by
      obtain ⟨r, hr, e⟩ := List.any_eq_true.1 q
      exact List.any_eq_true.2 ⟨r, nums_mem.2 (hl r hr), e⟩) h
    have hm : g ∈ (List.range (goals8 t)).filter fun g => (nums t.length).any fun r => hits t r g := List.mem_filter.2 ⟨List.mem_range.2 hg, List.any_eq_true.2 ⟨r, hr, e⟩⟩
    rw [← he] at hm
    exact List.any_eq_true.1 (List.mem_filter.1 hm).2
  · intro h
    congr 1
    refine filt_congr fun g hg => ?_
    rw [List.mem_range] at hg
    rw [Bool.eq_iff_iff, List.any_eq_true, List.any_eq_true]
    constructor
    · rintro ⟨r, hr, e⟩
      exact ⟨r, nums_mem.2 (hl r hr), e⟩
    · exact h g hg
theorem drop_cover {t : Ste} (h : okT t) {g : Nat} (hg : g < goals8 t) : (coverS (dropT t g)).length ≤ (coverS t).length := by
  obtain ⟨s1, s2, s3⟩ := coverS_spec t
  obtain ⟨r1, r2, r3⟩ := coverS_spec (dropT t g)
  rw [drop_len] at r3
  have hin := isSet8_in s1
  have hc : coverB (dropT t g) (coverS t) = true := by
    rw [cover_iff (by intro r hr; rw [drop_len]; exact hin r hr)]
    rw [drop_goals h hg, drop_len]
    intro k hk ⟨r, hr, e⟩
    rw [drop_hits h hg (nums_mem.1 hr)] at e
    obtain ⟨q, hq, e2⟩ := (cover_iff hin).1 s2 (backG g k) (by unfold backG; split <;> omega) ⟨r, hr, e⟩
    exact ⟨q, hq, by rw [drop_hits h hg (hin q hq)]; exact e2⟩
  rcases r3 _ s1 hc with q | q
  · omega
  · have := q.1; omega
end Go.Tk
