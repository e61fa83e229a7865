import Derived.Test.YtgimfjbnbnnjeaaC1r
set_option linter.unusedSimpArgs false
set_option linter.unusedVariables false
namespace Go.Tk
open Go Go.RowKit

theorem writes_eq {l : Lin} (h : validLine l = true) : (!(l.1 == 0) && !(l.1 == 7)) = writes l := by
  have hr := line_regs h
  unfold writes
  rw [Bool.eq_iff_iff]
  simp only [Bool.and_eq_true, Bool.not_eq_true', beq_eq_false_iff_ne, decide_eq_true_eq]
  omega

abbrev cSameIntsR : Con := { A := (.cons (.sl .int) (.cons (.sl .int) .nil)), R := (.cons .bool .nil), pre := fun x => x.1.length ≤ 1000000, F := fun x => (decide (x.1 = x.2.1), ()) }
def cSameIntsR_0 (Λ1 : Int → Prop) (a : (List Int)) (b : (List Int)) (y0 : Bool) : Prop :=
  if ((List.length a : Int) != (List.length b : Int)) = true then (false = y0 ∧ True) else Λ1 (0 : Int)
def cSameIntsR_1 (Λ1 : Int → Prop) (a : (List Int)) (b : (List Int)) (y0 : Bool)  (i_1 : Int) : Prop :=
  if (decide (i_1 < (List.length a : Int))) = true then (idx i_1 (List.length a : Int) ∧ (idx i_1 (List.length b : Int) ∧ (if ((List.getD a (Int.toNat i_1) 0) != (List.getD b (Int.toNat i_1) 0)) = true then (false = y0 ∧ True) else (inI (i_1 + (1 : Int)) ∧ Λ1 (i_1 + (1 : Int)))))) else (true = y0 ∧ True)
theorem cSameIntsR_law (h : ∀ (a : (List Int)) (b : (List Int)), cSameIntsR.A.wf (a, b, ()) → (a.length ≤ 1000000) → ∀ (Λ1 : Int → Prop), (∀ (i_1 : Int), cSameIntsR_1 Λ1 a b (decide (a = b)) i_1 → Λ1 i_1) → cSameIntsR_0 Λ1 a b (decide (a = b))) : ConOK Go.Proofs.Try.prog 5 cSameIntsR := by
  refine lawL (Γ := []) (Θ := Th) (n := 26) [([1, 1, 0, 1, 0], ⟨[(0, false), (1, false), (5, true)], []⟩)] trivial (by kernel_rfl) th_ok mix_ok Go.Proofs.Try.func5 (by kernel_rfl) ?_
  intro x hw hp Λ hC
  have h0 := h x.1 x.2.1 hw hp (fun i_1 => Λ [1, 1, 0, 1, 0] ([(0, .d false (.sl .int) x.1), (1, .d false (.sl .int) x.2.1), (5, .d true .int i_1)], [])) (fun i_1 hb => hC [1, 1, 0, 1, 0] ([(0, .d false (.sl .int) x.1), (1, .d false (.sl .int) x.2.1), (5, .d true .int i_1)], []) (Eq.mpr (by kernel_rfl) hb))
  exact Eq.mpr (by kernel_rfl) h0
theorem cSameIntsR_ok : ConOK Go.Proofs.Try.prog 5 cSameIntsR := by
  refine cSameIntsR_law ?_
  intro a b hw hp Λ1 h1
  unfold cSameIntsR_0
  by_cases hl : a.length = b.length
  · rw [if_neg (by simp [hl])]
    refine upto (n := a.length) (Q := fun i => a.take i = b.take i → Λ1 i) ?_ ?_ 0 (Nat.zero_le _) rfl
    · intro ha
      rw [List.take_length, List.take_of_length_le (by omega)] at ha
      apply h1; unfold cSameIntsR_1; rw [if_neg (by simp)]
      exact ⟨by simp [ha], trivial⟩
    · intro i hi ih ha
      apply h1; unfold cSameIntsR_1; rw [if_pos (by simpa using hi), Int.toNat_natCast]
      refine ⟨idx_nat hi, idx_nat (by omega), ?_⟩
      by_cases hv : List.getD a i 0 = List.getD b i 0
      · rw [if_neg (by rw [hv]; simp)]
        exact ⟨inI_succ hi (by omega), ih (take_eq_next 0 hi hl ha hv)⟩
      · rw [if_pos (by simpa using hv)]
        exact ⟨by simp [ne_at 0 hv], trivial⟩
  · rw [if_pos (by simp; omega)]
    exact ⟨by simp; exact fun e => hl (by rw [e]), trivial⟩
end Go.Tk
