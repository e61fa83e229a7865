/- Plain facts of layer 8: shares of waits, and rows in another order. No program in sight. -/
import Derived.Test.YtmedjckknalpbaaP8w
set_option linter.unusedSimpArgs false
set_option linter.unusedVariables false
set_option linter.unnecessarySimpa false
namespace Go.Tk
open Go Go.RowKit

theorem perm_of_sub {α : Type} [BEq α] [LawfulBEq α] : ∀ (l m : List α), l.Nodup → (∀ x ∈ l, x ∈ m) → m.length = l.length → m.Perm l
  | [], m, _, _, h => by rw [List.length_eq_zero_iff.1 h]
  | a :: l, m, hn, hs, h => by
    obtain ⟨h1, h2⟩ := List.nodup_cons.1 hn
    have ha := hs a (by simp)
    refine (List.perm_cons_erase ha).trans (List.Perm.cons a (perm_of_sub l (m.erase a) h2 (fun x hx => ?_) ?_))
    · have hne : x ≠ a := fun e => h1 (e ▸ hx)
      exact (List.mem_erase_of_ne hne).2 (hs x (by simp [hx]))
    · rw [List.length_erase_of_mem ha, h]; rfl

theorem tmod_nat (a b : Nat) : Int.tmod (a : Int) (b : Int) = ((a % b : Nat) : Int) := rfl
theorem tdiv_nat (a b : Nat) : Int.tdiv (a : Int) (b : Int) = ((a / b : Nat) : Int) := rfl

def manyT (t : Ste) : Nat := t.length * (openL t).length
def shareT (t : Ste) (o : List Int) : Int × Int := (((waitL t o).toNat / Nat.gcd (waitL t o).toNat (manyT t) : Nat), (manyT t / Nat.gcd (waitL t o).toNat (manyT t) : Nat))

theorem wait_bd {t : Ste} (ht : okT t) {o : List Int} (ho : o.length ≤ 8) : 0 ≤ waitL t o ∧ waitL t o ≤ 90 := by
  have h := sum_bound (l := openL t) (f := waitG t o) (a := 0) (b := 9) fun g _ => by
    have := idxF_bound (fun r => hits t r g.toNat) o
    unfold waitG
    omega
  have h2 := openL_len t
  have h3 := ht.2.1
  unfold waitL
  omega
theorem idx_hit {α : Type} {p : α → Bool} {l : List α} (h : l.any p = true) : 0 ≤ idxF p l ∧ idxF p l < l.length := by
  unfold idxF
  cases hf : l.findIdx? p with
  | none =>
    rw [List.findIdx?_eq_none_iff] at hf
    obtain ⟨x, hx, e⟩ := List.any_eq_true.1 h
    rw [hf x hx] at e; cases e
  | some i =>
    obtain ⟨h1, _⟩ := List.findIdx?_eq_some_iff_findIdx_eq.1 hf
    show 0 ≤ (i : Int) ∧ (i : Int) < _
    omega
theorem wait_many {t : Ste} {o : List Int} (h : o.Perm (nums t.length)) : ((openL t).length : Int) ≤ waitL t o ∧ waitL t o ≤ (manyT t : Int) := by
  have hl := h.length_eq
  rw [nums_len] at hl
  have h1 := sum_bound (l := openL t) (f := waitG t o) (a := 1) (b := t.length) fun g hg => by
    have : o.any (fun r => hits t r g.toNat) = true := by rw [any_perm h]; exact open_hit hg
    have := idx_hit this
    unfold waitG
    omega
  unfold manyT waitL
  rw [Int.natCast_mul]
  omega
theorem share_law {t : Ste} {o : List Int} (h : o.Perm (nums t.length)) (hm : manyT t ≠ 0) : 1 ≤ (shareT t o).2 ∧ 1 ≤ (shareT t o).1 ∧ (shareT t o).1 ≤ (shareT t o).2 := by
  have h1 := wait_many h
  have h2 : 0 < (openL t).length := by
    apply Nat.pos_of_ne_zero
    intro e
    unfold manyT at hm
    rw [e] at hm
    simp at hm
  have hg : 0 < Nat.gcd (waitL t o).toNat (manyT t) := Nat.gcd_pos_of_pos_right _ (by omega)
  have hw : 0 < (waitL t o).toNat := by omega
  unfold shareT
  have h3 : 1 ≤ manyT t / Nat.gcd (waitL t o).toNat (manyT t) := Nat.div_pos (Nat.le_of_dvd (by omega) (Nat.gcd_dvd_right _ _)) hg
  have h4 : 1 ≤ (waitL t o).toNat / Nat.gcd (waitL t o).toNat (manyT t) := Nat.div_pos (Nat.le_of_dvd hw (Nat.gcd_dvd_left _ _)) hg
  have h5 : (waitL t o).toNat / Nat.gcd (waitL t o).toNat (manyT t) ≤ manyT t / Nat.gcd (waitL t o).toNat (manyT t) := Nat.div_le_div_right (by omega)
  simp only
  omega

/-! ### The document's loop -/
def waitK (t : Ste) (o : List Int) (k : Nat) : Int := ((metK t (nums t.length) k).map (waitG t o)).sum
theorem waitK_all (t : Ste) (o : List Int) : waitK t o (goals8 t) = waitL t o := rfl
theorem waitK_succ {t : Ste} {o : List Int} (ho : inT t o) (k : Nat) : waitK t o (k + 1) = waitK t o k + waitG t o k := by
  unfold waitK
  rw [metK_succ]
  split
  · rw [List.map_append, List.sum_append]
    simp
  · rename_i h
    have : o.any (fun r => hits t r k) = false := by
      rw [List.any_eq_false]
      intro r hr e
      apply h
      exact List.any_eq_true.2 ⟨r, nums_mem.2 (ho r hr), e⟩
    unfold waitG
    rw [Int.toNat_natCast, idxF_none this]
    omega
theorem waitK_bd {t : Ste} {o : List Int} (k : Nat) (hk : k ≤ 10) (ho : o.length ≤ 100) : 0 ≤ waitK t o k ∧ waitK t o k ≤ 1010 := by
  have h := sum_bound (l := metK t (nums t.length) k) (f := waitG t o) (a := 0) (b := 101) fun g _ => by
    have := idxF_bound (fun r => hits t r g.toNat) o
    unfold waitG
    omega
  have h2 := metK_len t (nums t.length) k
  unfold waitK
  omega
end Go.Tk
