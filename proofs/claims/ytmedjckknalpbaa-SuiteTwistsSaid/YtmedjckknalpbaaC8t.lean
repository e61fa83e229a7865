/- SuiteBests. -/
import Derived.Test.YtmedjckknalpbaaC8s
set_option linter.unusedSimpArgs false
set_option linter.unusedVariables false
set_option linter.unnecessarySimpa false
namespace Go.Tk
open Go Go.RowKit
theorem sortL_nums {l : List Int} {n : Nat} (h : l.Perm (nums n)) : sortL l = nums n := by
  have h1 : (sortL l).Pairwise fun x y => decide (x ≤ y) = true := List.pairwise_mergeSort (fun a b c h1 h2 => by simp at *; omega) (fun a b => by simp; omega) _
  have h2 : (nums n).Pairwise fun x y => decide (x ≤ y) = true := (nums_sorted n).imp fun h => by simp; omega
  refine List.Perm.eq_of_pairwise (fun a b _ _ p q => ?_) h1 h2 ((sortL_perm l).trans h)
  simp at p q; omega
theorem ordT_perm {t : Ste} {l : List Int} (h0 : validT t = 0) (h : l.Perm (nums t.length)) : ordT t l = 0 := by
  unfold ordT
  rw [if_pos h0, sortL_nums h]
  simp [argErr]
abbrev cBestsL : Con := { A := (.cons (.sl (.sl .int)) .nil), R := (.cons .bool .nil), pre := fun x => True, F := fun x => (true, ()) }
def cBestsL_0  (t : (List (List Int))) (y0 : Bool) : Prop :=
  True ∧ (if (longT t) = true then (True ∧ (true = y0 ∧ True)) else (True ∧ (True ∧ (True ∧ (if (!(decide (((if validT t = 0 then (bestT t).1 else [])) = ((if validT t = 0 then (bestT t).1 else []))))) = true then (true = true ∧ (true = true ∧ (false = y0 ∧ True))) else (True ∧ (if (bif false then true else (((if validT t = 0 then (bestT t).2 else 0)) != ((if validT t = 0 then (bestT t).2 else 0)))) = true then (true = true ∧ (false = y0 ∧ True)) else (True ∧ (if (bif false then true else ((validT t) != (validT t))) = true then (false = y0 ∧ True) else (((if validT t = 0 then (bestT t).1 else [])).length ≤ 1000000 ∧ (if ((validT t) != (0 : Int)) = true then (true = true ∧ (True ∧ (True ∧ ((bif true then true else false) = y0 ∧ True)))) else (if ((ordT t ((if validT t = 0 then (bestT t).1 else []))) == (0 : Int)) = true then (True ∧ (True ∧ (if (bif false then true else (bif true then (((if ordT t ((if validT t = 0 then (bestT t).1 else [])) = 0 then waitL t ((if validT t = 0 then (bestT t).1 else [])) else 0)) == ((if validT t = 0 then (bestT t).2 else 0))) else false)) = true then (True ∧ (True ∧ ((bif true then true else false) = y0 ∧ True))) else (false = false ∧ (false = y0 ∧ True))))) else (false = false ∧ (True ∧ (if (bif false then true else false) = true then (True ∧ (True ∧ ((bif true then true else false) = y0 ∧ True))) else (false = false ∧ (false = y0 ∧ True)))))))))))))))))
theorem cBestsL_law (h : ∀ (t : (List (List Int))), cBestsL.A.wf (t, ()) → cBestsL_0  t true) : ConOK Go.Proofs.Try.prog 11 cBestsL := by
  refine lawL (Γ := [(43, cBest), (44, cBestR), (17, cLong8), (21, cSameI8), (18, cSane8), (45, cWaitS)]) (Θ := Th) (n := 60) [] ⟨cBest_ok, cBestR_ok, cLong8_ok, cSameI8_ok, cSane8_ok, cWaitS_ok, trivial⟩ (by kernel_rfl) th_ok mix_ok Go.Proofs.Try.func11 (by kernel_rfl) ?_
  intro x hw hp Λ hC
  have h0 := h x.1 hw  
  exact Eq.mpr (by kernel_rfl) h0
theorem cBestsL_ok : ConOK Go.Proofs.Try.prog 11 cBestsL := by
  refine cBestsL_law ?_
  intro t hw
  unfold cBestsL_0
  refine ⟨trivial, ?_⟩
  cases hL : longT t
  · rw [if_neg (by simp)]
    by_cases h0 : validT t = 0
    · have h8 := (validT_ok.1 h0).1
      have hl := (bestT_perm t).length_eq
      rw [nums_len] at hl
      have h1 := ordT_perm h0 (bestT_perm t)
      have h2 := bestT_wait t
      simp [h0, h1, ← h2]
      omega
    · simp [h0]
  · rw [if_pos rfl]
    exact ⟨trivial, rfl, trivial⟩
end Go.Tk
