/- Plain facts of layer 8: suites. No program in sight. -/
import Derived.Test.YtmedjckknalpbaaP1
set_option linter.unusedSimpArgs false
set_option linter.unusedVariables false
namespace Go.Tk
open Go Go.RowKit

abbrev Ste := List (List Int)
def goals8 (t : Ste) : Nat := (t.getD 0 []).length
def is01 (n : Int) : Bool := within n 0 1
def rowOk (t : Ste) (r : List Int) : Bool := decide (r.length = goals8 t) && r.all is01
def validT (t : Ste) : Int := if t.length > 8 ∨ goals8 t > 10 then 3 else argErr (t.all (rowOk t))
def isSet8 (l : List Int) (n : Nat) : Bool := (List.range l.length).all fun i => decide (0 ≤ l.getD i 0) && decide (l.getD i 0 < n) && (decide (i = 0) || decide (l.getD (i - 1) 0 < l.getD i 0))
def rowsT (t : Ste) (l : List Int) : Int := if validT t = 0 then argErr (isSet8 l t.length) else validT t
def nums (n : Nat) : List Int := (List.range n).map Int.ofNat
def hits (t : Ste) (r : Int) (g : Nat) : Bool := (t.getD r.toNat []).getD g 0 == 1
def metL (t : Ste) (l : List Int) : List Int := ((List.range (goals8 t)).filter fun g => l.any fun r => hits t r g).map Int.ofNat
def openL (t : Ste) : List Int := metL t (nums t.length)
def coverB (t : Ste) (l : List Int) : Bool := decide ((metL t l).length = (openL t).length)
def okT (t : Ste) : Prop := t.length ≤ 8 ∧ goals8 t ≤ 10 ∧ ∀ r ∈ t, r.length = goals8 t ∧ ∀ x ∈ r, x = 0 ∨ x = 1
def inT (t : Ste) (l : List Int) : Prop := ∀ r ∈ l, 0 ≤ r ∧ r < t.length

theorem is01_iff {n : Int} : is01 n = true ↔ n = 0 ∨ n = 1 := by
  unfold is01; rw [within_iff]; omega

theorem validT_ok {t : Ste} : validT t = 0 ↔ okT t := by
  unfold validT okT
  split
  · rename_i h
    constructor
    · intro h; omega
    · intro h; omega
  · rename_i h
    rw [argErr_zero, List.all_eq_true]
    constructor
    · intro ha
      refine ⟨by omega, by omega, fun r hr => ?_⟩
      have := ha r hr
      unfold rowOk at this
      rw [Bool.and_eq_true, decide_eq_true_eq, List.all_eq_true] at this
      exact ⟨this.1, fun x hx => is01_iff.1 (this.2 x hx)⟩
    · rintro ⟨_, _, ha⟩ r hr
      unfold rowOk
      rw [Bool.and_eq_true, decide_eq_true_eq, List.all_eq_true]
      exact ⟨(ha r hr).1, fun x hx => is01_iff.2 ((ha r hr).2 x hx)⟩

theorem okT_row {t : Ste} (h : okT t) {i : Nat} (hi : i < t.length) : (t.getD i []).length = goals8 t := (h.2.2 _ (mem_getD hi)).1

theorem nums_len (n : Nat) : (nums n).length = n := by simp [nums]
theorem nums_mem {n : Nat} {r : Int} : r ∈ nums n ↔ 0 ≤ r ∧ r < n := by
  unfold nums
  simp only [List.mem_map, List.mem_range, Int.ofNat_eq_natCast]
  constructor
  · rintro ⟨a, h, rfl⟩; omega
  · intro h; exact ⟨r.toNat, by omega, by omega⟩
theorem nums_succ (n : Nat) : nums (n + 1) = nums n ++ [(n : Int)] := by simp [nums, List.range_succ]
theorem nums_in (t : Ste) : inT t (nums t.length) := fun r h => nums_mem.1 h
theorem metL_len (t : Ste) (l : List Int) : (metL t l).length ≤ goals8 t := by
  unfold metL
  rw [List.length_map]
  exact Nat.le_trans (List.length_filter_le ..) (by simp)
theorem metL_mem {t : Ste} {l : List Int} {g : Int} (h : g ∈ metL t l) : 0 ≤ g ∧ g < goals8 t := by
  unfold metL at h
  simp only [List.mem_map, List.mem_filter, List.mem_range, Int.ofNat_eq_natCast] at h
  obtain ⟨a, ⟨h1, _⟩, rfl⟩ := h
  omega

theorem isSet8_iff {l : List Int} {n : Nat} : isSet8 l n = true ↔ ∀ i, i < l.length → (0 ≤ l.getD i 0 ∧ l.getD i 0 < n) ∧ (i = 0 ∨ l.getD (i - 1) 0 < l.getD i 0) := by
  unfold isSet8
  simp only [List.all_eq_true, List.mem_range, Bool.and_eq_true, Bool.or_eq_true, decide_eq_true_eq]

theorem isSet8_in {t : Ste} {l : List Int} (h : isSet8 l t.length = true) : inT t l := by
  intro r hr
  obtain ⟨i, hi, e⟩ := List.mem_iff_getElem.1 hr
  have := ((isSet8_iff.1 h) i hi).1
  rw [List.getD_eq_getElem?_getD, List.getElem?_eq_getElem hi, Option.getD_some, e] at this
  exact this

/-- The loop that gathers the goals. -/
def metK (t : Ste) (l : List Int) (k : Nat) : List Int := ((List.range k).filter fun g => l.any fun r => hits t r g).map Int.ofNat
theorem metK_succ (t : Ste) (l : List Int) (k : Nat) : metK t l (k + 1) = if (l.any fun r => hits t r k) = true then metK t l k ++ [(k : Int)] else metK t l k := by
  unfold metK
  rw [List.range_succ, List.filter_append, List.map_append]
  cases h : (l.any fun r => hits t r k) <;> simp [h]
theorem metK_len (t : Ste) (l : List Int) (k : Nat) : (metK t l k).length ≤ k := by
  unfold metK
  rw [List.length_map]
  exact Nat.le_trans (List.length_filter_le ..) (by simp)

end Go.Tk
