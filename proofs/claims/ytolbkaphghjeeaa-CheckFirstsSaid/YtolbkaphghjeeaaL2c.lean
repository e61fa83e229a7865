/- The laws of layer 2 about the states of a box. -/
import Derived.Test.YtolbkaphghjeeaaC2w
set_option linter.unusedSimpArgs false
set_option linter.unusedVariables false
namespace Go.Tk
open Go Go.RowKit

abbrev cKeepsL : Con := { A := (.cons (.sl tL) (.cons tCt .nil)), R := (.cons .bool .nil), pre := fun x => True, F := fun x => (true, ()) }
def cKeepsL_0  (p : (List Lin)) (c : Ctr) (y0 : Bool) : Prop :=
  True ∧ (if (decide (100 < p.length)) = true then (true = true ∧ (True ∧ (true = y0 ∧ True))) else (True ∧ (True ∧ (if (bif false then true else (decide (100 < c.1.length ∨ 100 < c.2.1.length))) = true then (True ∧ (true = y0 ∧ True)) else (True ∧ (True ∧ (True ∧ (True ∧ (if (((cErr p c == 0 && (badL p c).isEmpty)) == ((cErr p c == 0 && (badL p c).isEmpty))) = true then (True ∧ (if (bif true then ((cErr p c) == (cErr p c)) else false) = true then (True ∧ (if (bif true then (((if cErr p c = 0 then ((badL p c).length : Int) else 0)) == ((if cErr p c = 0 then ((badL p c).length : Int) else 0))) else false) = true then (True ∧ (if (bif true then ((cErr p c) == (cErr p c)) else false) = true then (if ((cErr p c) != (0 : Int)) = true then (true = true ∧ (True ∧ (if (bif true then true else false) = true then (True ∧ (True ∧ ((bif true then true else false) = y0 ∧ True))) else (false = false ∧ (false = y0 ∧ True))))) else (True ∧ (True ∧ (if (bif true then (bif false then true else (((cErr p c == 0 && (badL p c).isEmpty)) == (((if cErr p c = 0 then ((badL p c).length : Int) else 0)) == (0 : Int)))) else false) = true then (True ∧ (True ∧ ((bif true then true else false) = y0 ∧ True))) else (false = false ∧ (false = y0 ∧ True)))))) else (false = false ∧ (false = false ∧ (false = y0 ∧ True))))) else (false = false ∧ (false = false ∧ (false = false ∧ (false = y0 ∧ True)))))) else (false = false ∧ (false = false ∧ (false = false ∧ (false = false ∧ (false = y0 ∧ True))))))) else (false = false ∧ (false = false ∧ (false = false ∧ (false = false ∧ (false = false ∧ (false = y0 ∧ True)))))))))))))))
theorem cKeepsL_law (h : ∀ (p : (List Lin)) (c : Ctr), cKeepsL.A.wf (p, c, ()) → cKeepsL_0  p c true) : ConOK Go.Proofs.Try.prog 14 cKeepsL := by
  refine lawL (Γ := [(55, cBad), (56, cBadR), (51, cKeeps), (54, cKeepsR), (18, cKnown2), (16, cLongL), (22, cWide)]) (Θ := Th) (n := 75) [] ⟨cBad_ok, cBadR_ok, cKeeps_ok, cKeepsR_ok, cKnown2_ok, cLongL_ok, cWide_ok, trivial⟩ (by kernel_rfl) th_ok mix_ok Go.Proofs.Try.func14 (by kernel_rfl) ?_
  intro x hw hp Λ hC
  have h0 := h x.1 x.2.1 hw  
  exact Eq.mpr (by kernel_rfl) h0
theorem cKeepsL_ok : ConOK Go.Proofs.Try.prog 14 cKeepsL := by
  refine cKeepsL_law ?_
  intro p c hw
  unfold cKeepsL_0
  by_cases c1 : 100 < p.length
  · simp [c1]
  by_cases c2 : 100 < c.1.length ∨ 100 < c.2.1.length
  · simp [c1, c2]
  by_cases e : cErr p c = 0
  · cases hb : badL p c with
    | nil => simp [c1, c2, e, hb]
    | cons a t =>
      have : ¬ ((t.length : Int) + 1 = 0) := by omega
      simp [c1, c2, e, hb, this]
  · simp [c1, c2, e]
abbrev cFirstsL : Con := { A := (.cons (.sl tL) (.cons tCt .nil)), R := (.cons .bool .nil), pre := fun x => True, F := fun x => (true, ()) }
def cFirstsL_0  (p : (List Lin)) (c : Ctr) (y0 : Bool) : Prop :=
  True ∧ (if (decide (100 < p.length)) = true then (true = true ∧ (True ∧ (true = y0 ∧ True))) else (True ∧ (True ∧ (if (bif false then true else (decide (100 < c.1.length ∨ 100 < c.2.1.length))) = true then (True ∧ (true = y0 ∧ True)) else (True ∧ (True ∧ (((if cErr p c = 0 then (badL p c).headD [] else [])).length ≤ 1000000 ∧ (if (!(decide (((if cErr p c = 0 then (badL p c).headD [] else [])) = ((if cErr p c = 0 then (badL p c).headD [] else []))))) = true then (true = true ∧ (true = true ∧ (false = y0 ∧ True))) else (True ∧ (if (bif false then true else (!(((cErr p c == 0 && !(badL p c).isEmpty)) == ((cErr p c == 0 && !(badL p c).isEmpty))))) = true then (true = true ∧ (false = y0 ∧ True)) else (True ∧ (if (bif false then true else ((cErr p c) != (cErr p c))) = true then (false = y0 ∧ True) else (True ∧ (if ((cErr p c) != (0 : Int)) = true then (true = true ∧ (True ∧ (True ∧ ((bif true then true else false) = y0 ∧ True)))) else (if ((cErr p c) == (0 : Int)) = true then (True ∧ (True ∧ (if (bif false then true else (bif true then (((cErr p c == 0 && (badL p c).isEmpty)) == (!((cErr p c == 0 && !(badL p c).isEmpty)))) else false)) = true then (True ∧ (True ∧ ((bif true then true else false) = y0 ∧ True))) else (false = false ∧ (false = y0 ∧ True))))) else (false = false ∧ (True ∧ (if (bif false then true else false) = true then (True ∧ (True ∧ ((bif true then true else false) = y0 ∧ True))) else (false = false ∧ (false = y0 ∧ True))))))))))))))))))))
theorem cFirstsL_law (h : ∀ (p : (List Lin)) (c : Ctr), cFirstsL.A.wf (p, c, ()) → cFirstsL_0  p c true) : ConOK Go.Proofs.Try.prog 11 cFirstsL := by
  refine lawL (Γ := [(49, cFirst), (50, cFirstR), (51, cKeeps), (18, cKnown2), (16, cLongL), (32, cSameIntsR), (22, cWide)]) (Θ := Th) (n := 69) [] ⟨cFirst_ok, cFirstR_ok, cKeeps_ok, cKnown2_ok, cLongL_ok, cSameIntsR_ok, cWide_ok, trivial⟩ (by kernel_rfl) th_ok mix_ok Go.Proofs.Try.func11 (by kernel_rfl) ?_
  intro x hw hp Λ hC
  have h0 := h x.1 x.2.1 hw  
  exact Eq.mpr (by kernel_rfl) h0
theorem cFirstsL_ok : ConOK Go.Proofs.Try.prog 11 cFirstsL := by
  refine cFirstsL_law ?_
  intro p c hw
  unfold cFirstsL_0
  by_cases c1 : 100 < p.length
  · simp [c1]
  by_cases c2 : 100 < c.1.length ∨ 100 < c.2.1.length
  · simp [c1, c2]
  by_cases e : cErr p c = 0
  · have hl : ((badL p c).headD []).length ≤ 1000000 := by
      cases hb : badL p c with
      | nil => simp
      | cons a t =>
        have hm : a ∈ statesC c := (List.mem_filter.1 (show a ∈ badL p c by rw [hb]; exact List.mem_cons_self ..)).1
        have := ((stateC_iff (isCtr_box (validC_ok (cErr_ok e).2).1).1).1 hm).1
        show a.length ≤ 1000000
        omega
    have hl' : (if cErr p c = 0 then (badL p c).headD [] else []).length ≤ 1000000 := by rw [if_pos e]; exact hl
    generalize (badL p c).headD [] = H at hl hl'
    simp [c1, c2, e, hl]
  · simp [c1, c2, e]
end Go.Tk
