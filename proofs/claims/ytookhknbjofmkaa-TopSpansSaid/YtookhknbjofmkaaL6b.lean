import Derived.Test.YtookhknbjofmkaaL6a
import Derived.Test.YtookhknbjofmkaaP6d
import Derived.Test.YtookhknbjofmkaaC2
set_option linter.unusedSimpArgs false
set_option linter.unusedVariables false
namespace Go.Tk
open Go Go.RowKit

abbrev cOf6 : Con := { A := (.cons tCt .nil), R := (.cons (.sl tR) (.cons .int .nil)), pre := fun x => True, F := fun x => ((if validC x.1 = 0 then boxOf x.1.1 x.1.2.1 else []), validC x.1, ()) }
def cOf6_0  (c : Ctr) (y0 : (List Rng)) (y1 : Int) : Prop :=
  True ∧ (if ((validC c) != (0 : Int)) = true then (([] : List Rng) = y0 ∧ (validC c) = y1 ∧ True) else ((c.1.length ≤ c.2.1.length ∧ c.1.length ≤ 1000) ∧ ((boxOf c.1 c.2.1) = y0 ∧ (0 : Int) = y1 ∧ True)))
theorem cOf6_law (h : ∀ (c : Ctr), cOf6.A.wf (c, ()) → cOf6_0  c (if validC c = 0 then boxOf c.1 c.2.1 else []) (validC c)) : ConOK Go.Proofs.Try.prog 21 cOf6 := by
  refine lawL (Γ := [(81, cOf0), (66, cValC)]) (Θ := Th) (n := 15) [] ⟨cOf0_ok, cValC_ok, trivial⟩ (by kernel_rfl) th_ok mix_ok Go.Proofs.Try.func21 (by kernel_rfl) ?_
  intro x hw hp Λ hC
  have h0 := h x.1 hw  
  exact Eq.mpr (by kernel_rfl) h0
theorem cOf6_ok : ConOK Go.Proofs.Try.prog 21 cOf6 := by
  refine cOf6_law ?_
  intro c hw
  unfold cOf6_0
  refine ⟨trivial, ?_⟩
  by_cases h : validC c = 0
  · have hb := (isCtr_box (validC_ok h).1).1
    have l1 := validS_len hb.1
    have l2 := validS_len hb.2.1
    rw [if_neg (by simp [h]), if_pos h, h]
    exact ⟨by omega, rfl, rfl, trivial⟩
  · rw [if_pos (by simpa using h), if_neg h]
    exact ⟨rfl, rfl, trivial⟩
theorem openN_next (b : List Rng) {i : Nat} (h : i < b.length) : openN (b.take (i + 1)) = openN (b.take i) + if (b.getD i tR.dflt).1 < (b.getD i tR.dflt).2.1 then 1 else 0 := by
  unfold openN
  rw [take_snoc tR.dflt h, List.filter_append, List.length_append]
  by_cases c : (b.getD i tR.dflt).1 < (b.getD i tR.dflt).2.1
  · rw [if_pos c, List.filter_cons_of_pos (by simpa using c)]; rfl
  · rw [if_neg c, List.filter_cons_of_neg (by simpa using c)]; rfl
theorem openN_le (b : List Rng) : openN b ≤ b.length := List.length_filter_le _ _

end Go.Tk
