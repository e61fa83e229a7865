import Derived.Test.YtookhknbjofmkaaL6b
import Derived.Test.YtookhknbjofmkaaP6e
set_option linter.unusedSimpArgs false
set_option linter.unusedVariables false
set_option linter.unnecessarySimpa false
namespace Go.Tk
open Go Go.RowKit

abbrev cCloneI : Con := { A := (.cons (.sl .int) .nil), R := (.cons (.osl .int) .nil), pre := fun x => x.1.length ≤ 1000000, F := fun x => (x.1, ()) }
def cCloneI_0  (s : (List Int)) (y0 : (List Int)) : Prop :=
  (s = [] → ([] : List Int) = y0) ∧ (True → (List.length ([] : List Int) + List.length s ≤ 4294967296 ∧ (([] : List Int) ++ s) = y0))
theorem cCloneI_law (h : ∀ (s : (List Int)), cCloneI.A.wf (s, ()) → (s.length ≤ 1000000) → cCloneI_0  s s) : ConOK Go.Proofs.Try.prog 71 cCloneI := by
  refine lawL (Γ := []) (Θ := Th) (n := 8) [] trivial (by kernel_rfl) th_ok mix_ok Go.Proofs.Try.func71 (by kernel_rfl) ?_
  intro x hw hp Λ hC
  have h0 := h x.1 hw hp  
  exact Eq.mpr (by kernel_rfl) h0
theorem cCloneI_ok : ConOK Go.Proofs.Try.prog 71 cCloneI := by
  refine cCloneI_law ?_
  intro s hw hp
  unfold cCloneI_0
  exact ⟨fun h => h.symm, fun _ => ⟨by simp only [List.length_nil]; omega, by simp⟩⟩
end Go.Tk
