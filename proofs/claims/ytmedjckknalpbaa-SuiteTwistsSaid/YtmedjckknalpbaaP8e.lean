/- Plain facts of layer 8: what suite's functions say. No program in sight. -/
import Derived.Test.YtmedjckknalpbaaP8d
set_option linter.unusedSimpArgs false
set_option linter.unusedVariables false
set_option linter.unnecessarySimpa false
namespace Go.Tk
open Go Go.RowKit

def sumG (r l : List Int) : Int := (l.map fun g => r.getD g.toNat 0).sum
def inG (t : Ste) (l : List Int) : Prop := ∀ g ∈ l, 0 ≤ g ∧ g < goals8 t
def exclB (t : Ste) (l : List Int) : Bool := !(t.any fun r => decide (sumG r l > 1))
def better (a b : List Int) : Bool := decide (a.length > b.length) || (decide (a.length = b.length) && decide (cmpL a b < 0))
def pickO (t : Ste) (c : List Int) : List Int := c.map fun k => (openL t).getD k.toNat 0
def stepX (t : Ste) (best c : List Int) : List Int := if better (pickO t c) best = true ∧ exclB t (pickO t c) = true then pickO t c else best
def exclK (t : Ste) (k : Nat) : List Int := ((setsL (openL t).length).take k).foldl (stepX t) []
def exclT (t : Ste) : List Int := (setsL (openL t).length).foldl (stepX t) []
def others (t : Ste) (r : Int) : List Int := (nums t.length).filter fun k => !(k == r)
def essT (t : Ste) : List Int := (nums t.length).filter fun r => !coverB t (others t r)
def beatsB (t : Ste) (a b : Int) : Bool := !(a == b) && decide ((metL t [a]).length = (metL t [a, b]).length) && (decide ((metL t [a]).length > (metL t [b]).length) || decide (a < b))
def needT (t : Ste) : List Int := (nums t.length).filter fun r => (nums t.length).any fun k => beatsB t k r
def waitG (t : Ste) (l : List Int) (g : Int) : Int := idxF (fun r => hits t r g.toNat) l + 1
def waitL (t : Ste) (l : List Int) : Int := ((openL t).map (waitG t l)).sum

theorem sum_take {l : List Int} {f : Int → Int} {i : Nat} (hi : i < l.length) : ((l.take (i + 1)).map f).sum = ((l.take i).map f).sum + f (l.getD i 0) := by
  rw [take_snoc 0 hi, List.map_append, List.sum_append]
  simp
theorem sum_bound {l : List Int} {f : Int → Int} {a b : Int} (h : ∀ g ∈ l, a ≤ f g ∧ f g ≤ b) : a * l.length ≤ (l.map f).sum ∧ (l.map f).sum ≤ b * l.length := by
  induction l with
  | nil => simp
  | cons g l ih =>
    have h1 := h g (by simp)
    have h2 := ih fun g hg => h g (by simp [hg])
    simp only [List.map_cons, List.sum_cons, List.length_cons]
    rw [show a * ((l.length + 1 : Nat) : Int) = a * l.length + a by rw [Int.natCast_add, Int.mul_add]; simp, show b * ((l.length + 1 : Nat) : Int) = b * l.length + b by rw [Int.natCast_add, Int.mul_add]; simp]
    omega
theorem sum01 {l : List Int} {f : Int → Int} (h : ∀ g ∈ l, 0 ≤ f g ∧ f g ≤ 1) (i : Nat) : 0 ≤ ((l.take i).map f).sum ∧ ((l.take i).map f).sum ≤ l.length := by
  have := sum_bound (l := l.take i) (f := f) (a := 0) (b := 1) fun g hg => h g (List.mem_of_mem_take hg)
  have h2 : (l.take i).length ≤ l.length := by rw [List.length_take]; omega
  omega
theorem idxF_bound {α : Type} (p : α → Bool) (l : List α) : -1 ≤ idxF p l ∧ idxF p l ≤ l.length := by
  unfold idxF
  split
  · rename_i i e
    obtain ⟨h1, _⟩ := List.findIdx?_eq_some_iff_findIdx_eq.1 e
    omega
  · omega
theorem nums_filter_in (t : Ste) (p : Int → Bool) : inT t ((nums t.length).filter p) := fun r hr => nums_mem.1 ((List.mem_filter.1 hr).1)
theorem openL_len (t : Ste) : (openL t).length ≤ goals8 t := metL_len _ _
theorem openL_in (t : Ste) : inG t (openL t) := fun g h => metL_mem h
theorem setOf_mem {n b : Nat} {k : Int} (h : k ∈ setOf n b) : 0 ≤ k ∧ k < n := nums_mem.1 ((List.mem_filter.1 h).1)
theorem setsL_len (n : Nat) : (setsL n).length = 2 ^ n := by simp [setsL]
theorem setsL_get {n i : Nat} (hi : i < 2 ^ n) : (setsL n).getD i [] = setOf n i := by
  unfold setsL
  rw [List.getD_eq_getElem?_getD, List.getElem?_map, List.getElem?_range hi]; rfl
theorem setOf_len (n b : Nat) : (setOf n b).length ≤ n := by
  unfold setOf
  exact Nat.le_trans (List.length_filter_le ..) (by rw [nums_len]; exact Nat.le_refl _)
theorem pickO_len (t : Ste) (c : List Int) : (pickO t c).length = c.length := by simp [pickO]
theorem pickO_take (t : Ste) {c : List Int} {i : Nat} (hi : i < c.length) : pickO t (c.take (i + 1)) = pickO t (c.take i) ++ [(openL t).getD (c.getD i 0).toNat 0] := by
  unfold pickO
  rw [take_snoc 0 hi, List.map_append]; rfl
theorem pickO_in {t : Ste} {c : List Int} (h : ∀ k ∈ c, 0 ≤ k ∧ k < (openL t).length) : inG t (pickO t c) := by
  intro g hg
  unfold pickO at hg
  obtain ⟨k, hk, rfl⟩ := List.mem_map.1 hg
  exact openL_in t _ (mem_getD (by have := h k hk; omega))
theorem foldl_take {α β : Type} (d : α) (f : β → α → β) (b : β) {l : List α} {i : Nat} (hi : i < l.length) : (l.take (i + 1)).foldl f b = f ((l.take i).foldl f b) (l.getD i d) := by
  rw [take_snoc d hi, List.foldl_append]; rfl

end Go.Tk
