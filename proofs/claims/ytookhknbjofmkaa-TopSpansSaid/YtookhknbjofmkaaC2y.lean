/- A test that a program makes, as data; the law of the witness (layer 2). -/
import Derived.Test.YtookhknbjofmkaaC2x
set_option linter.unusedSimpArgs false
set_option linter.unusedVariables false
namespace Go.Tk
open Go Go.RowKit

def makeErr (p : List Lin) (s : List Int) (o : Int) : Int := if validP p = 0 then argErr (validS s && isReg o) else validP p
theorem argErr_ok {b : Bool} (h : b = true) : argErr b = 0 := by rw [h]; rfl
theorem argErr_no {b : Bool} (h : b = false) : argErr b = 1 := by rw [h]; rfl
theorem isReg_ok {o : Int} (h : isReg o = true) : 0 ≤ o ∧ o ≤ 3 := within_iff.1 h
abbrev cMake : Con := { A := (.cons (.sl tL) (.cons (.sl .int) (.cons .int .nil))), R := (.cons tTs (.cons .int .nil)), pre := fun x => True, F := fun x => ((if makeErr x.1 x.2.1 x.2.2.1 = 0 then (x.2.1, x.2.2.1, Rg (runS x.1 x.2.1) x.2.2.1, ()) else (([] : List Int), 0, 0, ())), makeErr x.1 x.2.1 x.2.2.1, ()) }
def cMake_0  (p : (List Lin)) (in_ : (List Int)) (out : Int) (y0 : Tst) (y1 : Int) : Prop :=
  True ∧ (if ((validP p) != (0 : Int)) = true then ((([] : List Int), 0, 0, ()) = y0 ∧ (validP p) = y1 ∧ True) else (True ∧ (if (!(validS in_)) = true then (true = true ∧ ((([] : List Int), 0, 0, ()) = y0 ∧ (1 : Int) = y1 ∧ True)) else (True ∧ (True ∧ (if (bif false then true else (!(isReg out))) = true then ((([] : List Int), 0, 0, ()) = y0 ∧ (1 : Int) = y1 ∧ True) else (in_.length ≤ 1000000 ∧ ((validP p = 0 ∧ validS in_ = true ∧ 0 ≤ out ∧ out ≤ 3) ∧ ((in_, out, (Rg (runS p in_) out), ()) = y0 ∧ (0 : Int) = y1 ∧ True)))))))))
theorem cMake_law (h : ∀ (p : (List Lin)) (in_ : (List Int)) (out : Int), cMake.A.wf (p, in_, out, ()) → cMake_0  p in_ out (if makeErr p in_ out = 0 then (in_, out, Rg (runS p in_) out, ()) else (([] : List Int), 0, 0, ())) (makeErr p in_ out)) : ConOK Go.Proofs.Try.prog 15 cMake := by
  refine lawL (Γ := [(71, cCloneS), (65, cEnd), (70, cIsReg2), (69, cIsState), (68, cValP)]) (Θ := Th) (n := 32) [] ⟨cCloneS_ok, cEnd_ok, cIsReg2_ok, cIsState_ok, cValP_ok, trivial⟩ (by kernel_rfl) th_ok mix_ok Go.Proofs.Try.func15 (by kernel_rfl) ?_
  intro x hw hp Λ hC
  have h0 := h x.1 x.2.1 x.2.2.1 hw  
  exact Eq.mpr (by kernel_rfl) h0
theorem cMake_ok : ConOK Go.Proofs.Try.prog 15 cMake := by
  refine cMake_law ?_
  intro p in_ out hw
  unfold cMake_0
  refine ⟨trivial, ?_⟩
  by_cases g1 : validP p = 0
  · rw [if_neg (by simp [g1])]
    refine ⟨trivial, ?_⟩
    cases g2 : validS in_
    · have e : makeErr p in_ out = 1 := by unfold makeErr; rw [if_pos g1, g2]; exact argErr_no rfl
      rw [if_pos (by rfl), e]
      exact ⟨rfl, rfl, rfl, trivial⟩
    · rw [if_neg (by simp)]
      refine ⟨trivial, trivial, ?_⟩
      cases g3 : isReg out
      · have e : makeErr p in_ out = 1 := by unfold makeErr; rw [if_pos g1, g2, g3]; exact argErr_no rfl
        rw [if_pos (by rfl), e]
        exact ⟨rfl, rfl, trivial⟩
      · have e : makeErr p in_ out = 0 := by unfold makeErr; rw [if_pos g1, g2, g3]; exact argErr_ok rfl
        have l := validS_len g2
        rw [if_neg (by simp), e]
        refine ⟨by omega, ⟨g1, rfl, isReg_ok g3⟩, ?_, rfl, trivial⟩
        rw [if_pos rfl]
  · have e : makeErr p in_ out = validP p := by unfold makeErr; rw [if_neg g1]
    rw [if_pos (by simpa using g1), e, if_neg g1]
    exact ⟨rfl, rfl, trivial⟩
end Go.Tk
