import Derived.Test.YtblegpocdjoihaaC2
import Derived.Test.YtblegpocdjoihaaP2t
set_option linter.unusedSimpArgs false
set_option linter.unusedVariables false
namespace Go.Tk
open Go Go.RowKit

abbrev cEnd : Con := { A := (.cons (.sl tL) (.cons (.sl .int) (.cons .int .nil))), R := (.cons .int .nil), pre := fun x => validP x.1 = 0 ∧ validS x.2.1 = true ∧ 0 ≤ x.2.2.1 ∧ x.2.2.1 ≤ 3, F := fun x => (Rg (runS x.1 x.2.1) x.2.2.1, ()) }
def cEnd_0  (p : (List Lin)) (in_ : (List Int)) (out : Int) (y0 : Int) : Prop :=
  True ∧ (idx out (List.length ((if err1 p in_ = 0 then runS p in_ else [])) : Int) ∧ ((List.getD ((if err1 p in_ = 0 then runS p in_ else [])) (Int.toNat out) 0) = y0 ∧ True))
theorem cEnd_law (h : ∀ (p : (List Lin)) (in_ : (List Int)) (out : Int), cEnd.A.wf (p, in_, out, ()) → (validP p = 0 ∧ validS in_ = true ∧ 0 ≤ out ∧ out ≤ 3) → cEnd_0  p in_ out (Rg (runS p in_) out)) : ConOK Go.Proofs.Try.prog 125 cEnd := by
  refine lawL (Γ := [(50, cRun)]) (Θ := Th) (n := 19) [] ⟨cRun_ok, trivial⟩ (by kernel_rfl) th_ok mix_ok Go.Proofs.Try.func125 (by kernel_rfl) ?_
  intro x hw hp Λ hC
  have h0 := h x.1 x.2.1 x.2.2.1 hw hp  
  exact Eq.mpr (by kernel_rfl) h0
theorem cEnd_ok : ConOK Go.Proofs.Try.prog 125 cEnd := by
  refine cEnd_law ?_
  intro p in_ out hw hp
  unfold cEnd_0
  obtain ⟨p1, p2, p3, p4⟩ := hp
  have e : err1 p in_ = 0 := by unfold err1; rw [if_pos p1, p2]; rfl
  have l4 := validS_len (runS_ok (p := p) p2)
  rw [if_pos e]
  exact ⟨trivial, ⟨p3, by omega⟩, rfl, trivial⟩
abbrev cMade : Con := { A := (.cons (.sl tL) (.cons (.sl .int) (.cons .int .nil))), R := (.cons .int .nil), pre := fun x => validP x.1 = 0 ∧ validS x.2.1 = true ∧ 0 ≤ x.2.2.1 ∧ x.2.2.1 ≤ 3, F := fun x => (Rg (runS x.1 x.2.1) x.2.2.1, ()) }
def cMade_0  (p : (List Lin)) (in_ : (List Int)) (out : Int) (y0 : Int) : Prop :=
  True ∧ (idx out (List.length ((if err1 p in_ = 0 then runS p in_ else [])) : Int) ∧ ((List.getD ((if err1 p in_ = 0 then runS p in_ else [])) (Int.toNat out) 0) = y0 ∧ True))
theorem cMade_law (h : ∀ (p : (List Lin)) (in_ : (List Int)) (out : Int), cMade.A.wf (p, in_, out, ()) → (validP p = 0 ∧ validS in_ = true ∧ 0 ≤ out ∧ out ≤ 3) → cMade_0  p in_ out (Rg (runS p in_) out)) : ConOK Go.Proofs.Try.prog 128 cMade := by
  refine lawL (Γ := [(149, cRunR)]) (Θ := Th) (n := 19) [] ⟨cRunR_ok, trivial⟩ (by kernel_rfl) th_ok mix_ok Go.Proofs.Try.func128 (by kernel_rfl) ?_
  intro x hw hp Λ hC
  have h0 := h x.1 x.2.1 x.2.2.1 hw hp  
  exact Eq.mpr (by kernel_rfl) h0
theorem cMade_ok : ConOK Go.Proofs.Try.prog 128 cMade := by
  refine cMade_law ?_
  intro p in_ out hw hp
  unfold cMade_0
  obtain ⟨p1, p2, p3, p4⟩ := hp
  have e : err1 p in_ = 0 := by unfold err1; rw [if_pos p1, p2]; rfl
  have l4 := validS_len (runS_ok (p := p) p2)
  rw [if_pos e]
  exact ⟨trivial, ⟨p3, by omega⟩, rfl, trivial⟩
end Go.Tk
