/- Plain facts: tests and contracts (layer 2). No program in sight. -/
import Derived.Test.YtookhknbjofmkaaP1r
set_option linter.unusedSimpArgs false
set_option linter.unusedVariables false
namespace Go.Tk
open Go Go.RowKit

def lowHigh (c : Ctr) : Bool := (List.zipWith (fun l h => decide (l ≤ h)) c.1 c.2.1).all id
/-- The number of states of the first i registers. -/
def prodTo (l h : List Int) : Nat → Int
  | 0 => 1
  | i + 1 => prodTo l h i * (h.getD i 0 - l.getD i 0 + 1)
def sizeC (c : Ctr) : Int := prodTo c.1 c.2.1 4
def isCtr (c : Ctr) : Bool := validS c.1 && validS c.2.1 && isReg c.2.2.1 && isVal c.2.2.2.1 && isVal c.2.2.2.2.1 && decide (c.2.2.2.1 ≤ c.2.2.2.2.1) && lowHigh c
def validC (c : Ctr) : Int := if isCtr c = true then (if sizeC c > 400 then 3 else 0) else 1
/-- What is known of the box of a contract. -/
def boxC (c : Ctr) : Prop := validS c.1 = true ∧ validS c.2.1 = true ∧ lowHigh c = true

theorem zipAll_next' {α β : Type} (g : α → β → Bool) {a : List α} {b : List β} {i : Nat} (da : α) (db : β) (ha : i < a.length) (hb : i < b.length) (h : ((List.zipWith g a b).take i).all id = true) (h2 : g (a.getD i da) (b.getD i db) = true) : ((List.zipWith g a b).take (i + 1)).all id = true := by
  have hl : i < (List.zipWith g a b).length := by simp; omega
  refine all_take_next true hl h ?_
  simpa [List.getD_eq_getElem?_getD, List.getElem?_zipWith, ha, hb] using h2

theorem zipAll_false' {α β : Type} (g : α → β → Bool) {a : List α} {b : List β} {i : Nat} (da : α) (db : β) (ha : i < a.length) (hb : i < b.length) (h2 : g (a.getD i da) (b.getD i db) = false) : (List.zipWith g a b).all id = false := by
  have hl : i < (List.zipWith g a b).length := by simp; omega
  refine all_false_at true hl ?_
  simpa [List.getD_eq_getElem?_getD, List.getElem?_zipWith, ha, hb] using h2

theorem boxC_wid {c : Ctr} (h : boxC c) {i : Nat} (hi : i < 4) : c.1.getD i 0 ≤ c.2.1.getD i 0 ∧ -999 ≤ c.1.getD i 0 ∧ c.1.getD i 0 ≤ 999 ∧ -999 ≤ c.2.1.getD i 0 ∧ c.2.1.getD i 0 ≤ 999 := by
  obtain ⟨h1, h2, h3⟩ := h
  have l1 := validS_len h1
  have l2 := validS_len h2
  have g1 := (validS_iff.1 h1).2 _ (mem_getD (d := 0) (show i < c.1.length by omega))
  have g2 := (validS_iff.1 h2).2 _ (mem_getD (d := 0) (show i < c.2.1.length by omega))
  refine ⟨?_, g1.1, g1.2, g2.1, g2.2⟩
  by_cases g : c.1.getD i 0 ≤ c.2.1.getD i 0
  · exact g
  · have := zipAll_false' (fun (l h : Int) => decide (l ≤ h)) (a := c.1) (b := c.2.1) (i := i) 0 0 (by omega) (by omega) (by simpa using g)
    unfold lowHigh at h3
    rw [this] at h3; cases h3

theorem mul_bd {a A b : Int} (h1 : 1 ≤ a) (h2 : a ≤ A) (h3 : 1 ≤ b) (h4 : b ≤ 1999) : 1 ≤ a * b ∧ a * b ≤ A * 1999 := by
  have e1 : a * 1 ≤ a * b := Int.mul_le_mul_of_nonneg_left h3 (by omega)
  have e2 : a * b ≤ a * 1999 := Int.mul_le_mul_of_nonneg_left h4 (by omega)
  have e3 : a * 1999 ≤ A * 1999 := Int.mul_le_mul_of_nonneg_right h2 (by omega)
  omega

theorem prodTo_bd {c : Ctr} (h : boxC c) : ∀ i, i ≤ 4 → 1 ≤ prodTo c.1 c.2.1 i ∧ prodTo c.1 c.2.1 i ≤ 1999 ^ i
  | 0, _ => by simp [prodTo]
  | i + 1, hi => by
    have ih := prodTo_bd h i (by omega)
    have g := boxC_wid h (i := i) (by omega)
    have := mul_bd ih.1 ih.2 (b := c.2.1.getD i 0 - c.1.getD i 0 + 1) (by omega) (by omega)
    unfold prodTo
    rw [Int.pow_succ]
    exact this

theorem prodTo_inI {c : Ctr} (h : boxC c) {i : Nat} (hi : i ≤ 4) : 1 ≤ prodTo c.1 c.2.1 i ∧ prodTo c.1 c.2.1 i ≤ 15968023992001 := by
  have g := prodTo_bd h i hi
  refine ⟨g.1, Int.le_trans g.2 ?_⟩
  have c : i = 0 ∨ i = 1 ∨ i = 2 ∨ i = 3 ∨ i = 4 := by omega
  rcases c with rfl | rfl | rfl | rfl | rfl <;> decide

theorem min_step {P w : Int} (hP : 1 ≤ P) (hw : 1 ≤ w) : min (min P 401 * w) 401 = min (P * w) 401 := by
  by_cases h : P ≤ 401
  · rw [show min P 401 = P by omega]
  · have e1 : P * 1 ≤ P * w := Int.mul_le_mul_of_nonneg_left hw (by omega)
    rw [show min P 401 = 401 by omega]
    omega

theorem isCtr_box {c : Ctr} (h : isCtr c = true) : boxC c ∧ (0 ≤ c.2.2.1 ∧ c.2.2.1 ≤ 3) ∧ (-999 ≤ c.2.2.2.1 ∧ c.2.2.2.1 ≤ c.2.2.2.2.1 ∧ c.2.2.2.2.1 ≤ 999) := by
  unfold isCtr at h
  simp only [Bool.and_eq_true, decide_eq_true_eq] at h
  obtain ⟨⟨⟨⟨⟨⟨h1, h2⟩, h3⟩, h4⟩, h5⟩, h6⟩, h7⟩ := h
  have := within_iff.1 h3
  have := within_iff.1 h4
  have := within_iff.1 h5
  exact ⟨⟨h1, h2, h7⟩, by omega, by omega⟩

theorem validC_ok {c : Ctr} (h : validC c = 0) : isCtr c = true ∧ sizeC c ≤ 400 := by
  unfold validC at h
  split at h
  · rename_i g
    split at h
    · cases h
    · exact ⟨g, by omega⟩
  · cases h
end Go.Tk
