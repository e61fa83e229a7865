/- SuiteTwists. -/
import Derived.Test.YtmedjckknalpbaaC8v
import Derived.Test.YtmedjckknalpbaaP8z
set_option linter.unusedSimpArgs false
set_option linter.unusedVariables false
set_option linter.unnecessarySimpa false
namespace Go.Tk
open Go Go.RowKit
abbrev cCopied8 : Con := { A := (.cons (.sl (.sl .int)) .nil), R := (.cons (.sl (.sl .int)) .nil), pre := fun x => x.1.length ≤ 1000000 ∧ (∀ r' ∈ x.1, r'.length ≤ 1000000), F := fun x => (x.1, ()) }
def cCopied8_0 (Λ1 : Int → (List (List Int)) → Prop) (t : (List (List Int))) (y0 : (List (List Int))) : Prop :=
  Λ1 (0 : Int) ([] : List (List Int))
def cCopied8_1 (Λ1 : Int → (List (List Int)) → Prop) (t : (List (List Int))) (y0 : (List (List Int)))  (t8_1 : Int) (out_1 : (List (List Int))) : Prop :=
  if (decide (t8_1 < (List.length t : Int))) = true then (idx t8_1 (List.length t : Int) ∧ ((List.getD t (Int.toNat t8_1) ([] : List Int)).length ≤ 1000000 ∧ (List.length out_1 + List.length ([((List.getD t (Int.toNat t8_1) ([] : List Int)))]) ≤ 4294967296 ∧ (inI (t8_1 + (1 : Int)) ∧ Λ1 (t8_1 + (1 : Int)) (out_1 ++ [((List.getD t (Int.toNat t8_1) ([] : List Int)))]))))) else (out_1 = y0 ∧ True)
theorem cCopied8_law (h : ∀ (t : (List (List Int))), cCopied8.A.wf (t, ()) → (t.length ≤ 1000000 ∧ (∀ r' ∈ t, r'.length ≤ 1000000)) → ∀ (Λ1 : Int → (List (List Int)) → Prop), (∀ (t8_1 : Int) (out_1 : (List (List Int))), cCopied8_1 Λ1 t t t8_1 out_1 → Λ1 t8_1 out_1) → cCopied8_0 Λ1 t t) : ConOK Go.Proofs.Try.prog 85 cCopied8 := by
  refine lawL (Γ := [(91, cCloneI)]) (Θ := Th) (n := 19) [([1, 1, 0, 1, 0], ⟨[(3, true), (6, false), (7, true), (8, true)], [(3, true)]⟩)] ⟨cCloneI_ok, trivial⟩ (by kernel_rfl) th_ok mix_ok Go.Proofs.Try.func85 (by kernel_rfl) ?_
  intro x hw hp Λ hC
  have h0 := h x.1 hw hp (fun t8_1 out_1 => Λ [1, 1, 0, 1, 0] ([(3, .own 3 0), (6, .d false (.sl (.sl .int)) x.1), (7, .d true .int (List.length x.1 : Int)), (8, .d true .int t8_1)], [(3, .sl true (.sl .int) out_1)])) (fun t8_1 out_1 hb => hC [1, 1, 0, 1, 0] ([(3, .own 3 0), (6, .d false (.sl (.sl .int)) x.1), (7, .d true .int (List.length x.1 : Int)), (8, .d true .int t8_1)], [(3, .sl true (.sl .int) out_1)]) (Eq.mpr (by kernel_rfl) hb))
  exact Eq.mpr (by kernel_rfl) h0
theorem cCopied8_ok : ConOK Go.Proofs.Try.prog 85 cCopied8 := by
  refine cCopied8_law ?_
  intro t hw hp Λ1 h1
  unfold cCopied8_0
  refine upto (n := t.length) (Q := fun i => Λ1 (i : Int) (t.take i)) ?_ ?_ 0 (Nat.zero_le _)
  · apply h1; unfold cCopied8_1
    rw [if_neg (by simp), List.take_length]
    exact ⟨rfl, trivial⟩
  · intro i hi ih
    apply h1; unfold cCopied8_1
    rw [if_pos (by simpa using hi), Int.toNat_natCast]
    rw [take_snoc [] hi] at ih
    have := hp.1
    refine ⟨idx_nat hi, hp.2 _ (mem_getD hi), ?_, by unfold inI; omega, ih⟩
    rw [List.length_take]; simp; omega
abbrev cTwistS : Con := { A := (.cons (.sl (.sl .int)) (.cons (.sl .int) .nil)), R := (.cons (.sl (.sl .int)) (.cons .int .nil)), pre := fun x => x.2.1.length ≤ 1000000, F := fun x => ((if ordT x.1 x.2.1 = 0 then twistT x.1 x.2.1 else []), ordT x.1 x.2.1, ()) }
def cTwistS_0 (Λ1 : Int → (List (List Int)) → Prop) (t : (List (List Int))) (order : (List Int)) (y0 : (List (List Int))) (y1 : Int) : Prop :=
  order.length ≤ 1000000 ∧ (if ((ordT t order) != (0 : Int)) = true then (([] : List (List Int)) = y0 ∧ (ordT t order) = y1 ∧ True) else ((t.length ≤ 1000000 ∧ (∀ r' ∈ t, r'.length ≤ 1000000)) ∧ Λ1 (0 : Int) ([] : List (List Int))))
def cTwistS_1 (Λ1 : Int → (List (List Int)) → Prop) (t : (List (List Int))) (order : (List Int)) (y0 : (List (List Int))) (y1 : Int)  (t21_1 : Int) (out_1 : (List (List Int))) : Prop :=
  if (decide (t21_1 < (List.length order : Int))) = true then (idx t21_1 (List.length order : Int) ∧ (idx (List.getD order (Int.toNat t21_1) 0) (List.length t : Int) ∧ (List.length out_1 + List.length ([(List.getD t (Int.toNat (List.getD order (Int.toNat t21_1) 0)) ([] : List Int))]) ≤ 4294967296 ∧ (inI (t21_1 + (1 : Int)) ∧ Λ1 (t21_1 + (1 : Int)) (out_1 ++ [(List.getD t (Int.toNat (List.getD order (Int.toNat t21_1) 0)) ([] : List Int))]))))) else (out_1 = y0 ∧ (0 : Int) = y1 ∧ True)
theorem cTwistS_law (h : ∀ (t : (List (List Int))) (order : (List Int)), cTwistS.A.wf (t, order, ()) → (order.length ≤ 1000000) → ∀ (Λ1 : Int → (List (List Int)) → Prop), (∀ (t21_1 : Int) (out_1 : (List (List Int))), cTwistS_1 Λ1 t order (if ordT t order = 0 then twistT t order else []) (ordT t order) t21_1 out_1 → Λ1 t21_1 out_1) → cTwistS_0 Λ1 t order (if ordT t order = 0 then twistT t order else []) (ordT t order)) : ConOK Go.Proofs.Try.prog 53 cTwistS := by
  refine lawL (Γ := [(85, cCopied8), (93, cOrdered)]) (Θ := Th) (n := 34) [([1, 1, 1, 1, 0, 1, 0], ⟨[(7, true), (8, true), (19, false), (20, true), (21, true)], [(8, true)]⟩)] ⟨cCopied8_ok, cOrdered_ok, trivial⟩ (by kernel_rfl) th_ok mix_ok Go.Proofs.Try.func53 (by kernel_rfl) ?_
  intro x hw hp Λ hC
  have h0 := h x.1 x.2.1 hw hp (fun t21_1 out_1 => Λ [1, 1, 1, 1, 0, 1, 0] ([(7, .d true (.sl (.sl .int)) x.1), (8, .own 8 0), (19, .d false (.sl .int) x.2.1), (20, .d true .int (List.length x.2.1 : Int)), (21, .d true .int t21_1)], [(8, .sl true (.sl .int) out_1)])) (fun t21_1 out_1 hb => hC [1, 1, 1, 1, 0, 1, 0] ([(7, .d true (.sl (.sl .int)) x.1), (8, .own 8 0), (19, .d false (.sl .int) x.2.1), (20, .d true .int (List.length x.2.1 : Int)), (21, .d true .int t21_1)], [(8, .sl true (.sl .int) out_1)]) (Eq.mpr (by kernel_rfl) hb))
  exact Eq.mpr (by kernel_rfl) h0
theorem cTwistS_ok : ConOK Go.Proofs.Try.prog 53 cTwistS := by
  refine cTwistS_law ?_
  intro t order hw hp Λ1 h1
  unfold cTwistS_0
  refine ⟨hp, ?_⟩
  by_cases h : ordT t order = 0
  · rw [if_neg (by simp [h])]
    rw [if_pos h, h] at h1
    obtain ⟨ht, hin, hl, hpm⟩ := ordT_ok h
    have h8 := ht.1
    have h10 := ht.2.1
    refine ⟨⟨by omega, fun r hr => by have := (ht.2.2 r hr).1; omega⟩, ?_⟩
    refine upto (n := order.length) (Q := fun i => Λ1 (i : Int) ((order.take i).map fun r => t.getD r.toNat [])) ?_ ?_ 0 (Nat.zero_le _)
    · apply h1; unfold cTwistS_1
      rw [if_neg (by simp), List.take_length]
      exact ⟨rfl, rfl, trivial⟩
    · intro i hi ih
      apply h1; unfold cTwistS_1
      rw [if_pos (by simpa using hi), Int.toNat_natCast]
      have hr := hin _ (mem_getD (d := 0) hi)
      rw [take_snoc 0 hi, List.map_append] at ih
      refine ⟨idx_nat hi, ⟨hr.1, hr.2⟩, ?_, by unfold inI; omega, ih⟩
      rw [List.length_map, List.length_take]; simp; omega
  · rw [if_pos (by simp [h]), if_neg h]
    exact ⟨rfl, rfl, trivial⟩
abbrev cTwistR : Con := { A := (.cons (.sl (.sl .int)) (.cons (.sl .int) .nil)), R := (.cons (.sl (.sl .int)) (.cons .int .nil)), pre := fun x => x.2.1.length ≤ 1000000, F := fun x => ((if ordT x.1 x.2.1 = 0 then twistT x.1 x.2.1 else []), ordT x.1 x.2.1, ()) }
def cTwistR_0 (Λ1 : Int → (List (List Int)) → Prop) (t : (List (List Int))) (order : (List Int)) (y0 : (List (List Int))) (y1 : Int) : Prop :=
  order.length ≤ 1000000 ∧ (if ((ordT t order) != (0 : Int)) = true then (([] : List (List Int)) = y0 ∧ (ordT t order) = y1 ∧ True) else Λ1 (0 : Int) ([] : List (List Int)))
def cTwistR_1 (Λ1 : Int → (List (List Int)) → Prop) (t : (List (List Int))) (order : (List Int)) (y0 : (List (List Int))) (y1 : Int)  (i_1 : Int) (out_1 : (List (List Int))) : Prop :=
  if (decide (i_1 < (List.length order : Int))) = true then (idx i_1 (List.length order : Int) ∧ (idx (List.getD order (Int.toNat i_1) 0) (List.length t : Int) ∧ (List.length ([] : List Int) + List.length (List.getD t (Int.toNat (List.getD order (Int.toNat i_1) 0)) ([] : List Int)) ≤ 4294967296 ∧ (List.length out_1 + List.length ([(([] : List Int) ++ (List.getD t (Int.toNat (List.getD order (Int.toNat i_1) 0)) ([] : List Int)))]) ≤ 4294967296 ∧ (inI (i_1 + (1 : Int)) ∧ Λ1 (i_1 + (1 : Int)) (out_1 ++ [(([] : List Int) ++ (List.getD t (Int.toNat (List.getD order (Int.toNat i_1) 0)) ([] : List Int)))])))))) else (out_1 = y0 ∧ (0 : Int) = y1 ∧ True)
theorem cTwistR_law (h : ∀ (t : (List (List Int))) (order : (List Int)), cTwistR.A.wf (t, order, ()) → (order.length ≤ 1000000) → ∀ (Λ1 : Int → (List (List Int)) → Prop), (∀ (i_1 : Int) (out_1 : (List (List Int))), cTwistR_1 Λ1 t order (if ordT t order = 0 then twistT t order else []) (ordT t order) i_1 out_1 → Λ1 i_1 out_1) → cTwistR_0 Λ1 t order (if ordT t order = 0 then twistT t order else []) (ordT t order)) : ConOK Go.Proofs.Try.prog 54 cTwistR := by
  refine lawL (Γ := [(96, cOrdR)]) (Θ := Th) (n := 34) [([1, 1, 1, 1, 0, 1, 0], ⟨[(0, false), (1, false), (7, true), (8, true)], [(7, true)]⟩)] ⟨cOrdR_ok, trivial⟩ (by kernel_rfl) th_ok mix_ok Go.Proofs.Try.func54 (by kernel_rfl) ?_
  intro x hw hp Λ hC
  have h0 := h x.1 x.2.1 hw hp (fun i_1 out_1 => Λ [1, 1, 1, 1, 0, 1, 0] ([(0, .d false (.sl (.sl .int)) x.1), (1, .d false (.sl .int) x.2.1), (7, .own 7 0), (8, .d true .int i_1)], [(7, .sl true (.sl .int) out_1)])) (fun i_1 out_1 hb => hC [1, 1, 1, 1, 0, 1, 0] ([(0, .d false (.sl (.sl .int)) x.1), (1, .d false (.sl .int) x.2.1), (7, .own 7 0), (8, .d true .int i_1)], [(7, .sl true (.sl .int) out_1)]) (Eq.mpr (by kernel_rfl) hb))
  exact Eq.mpr (by kernel_rfl) h0
theorem cTwistR_ok : ConOK Go.Proofs.Try.prog 54 cTwistR := by
  refine cTwistR_law ?_
  intro t order hw hp Λ1 h1
  unfold cTwistR_0
  refine ⟨hp, ?_⟩
  by_cases h : ordT t order = 0
  · rw [if_neg (by simp [h])]
    rw [if_pos h, h] at h1
    obtain ⟨ht, hin, hl, hpm⟩ := ordT_ok h
    have h8 := ht.1
    have h10 := ht.2.1
    refine upto (n := order.length) (Q := fun i => Λ1 (i : Int) ((order.take i).map fun r => t.getD r.toNat [])) ?_ ?_ 0 (Nat.zero_le _)
    · apply h1; unfold cTwistR_1
      rw [if_neg (by simp), List.take_length]
      exact ⟨rfl, rfl, trivial⟩
    · intro i hi ih
      apply h1; unfold cTwistR_1
      rw [if_pos (by simpa using hi), Int.toNat_natCast]
      have hr := hin _ (mem_getD (d := 0) hi)
      have hrow := okT_row ht (i := (order.getD i 0).toNat) (by omega)
      rw [take_snoc 0 hi, List.map_append] at ih
      refine ⟨idx_nat hi, ⟨hr.1, hr.2⟩, by rw [hrow]; simp; omega, ?_, by unfold inI; omega, ih⟩
      rw [List.length_map, List.length_take]; simp; omega
  · rw [if_pos (by simp [h]), if_neg h]
    exact ⟨rfl, rfl, trivial⟩
abbrev cSame8 : Con := { A := (.cons (.sl (.sl .int)) (.cons (.sl (.sl .int)) .nil)), R := (.cons .bool .nil), pre := fun x => x.1.length ≤ 1000000 ∧ x.2.1.length ≤ 1000000, F := fun x => (decide (x.1 = x.2.1), ()) }
def cSame8_0 (Λ1 : Int → Prop) (s : (List (List Int))) (t : (List (List Int))) (y0 : Bool) : Prop :=
  if ((List.length s : Int) != (List.length t : Int)) = true then (false = y0 ∧ True) else Λ1 (0 : Int)
def cSame8_1 (Λ1 : Int → Prop) (s : (List (List Int))) (t : (List (List Int))) (y0 : Bool)  (i_1 : Int) : Prop :=
  if (decide (i_1 < (List.length s : Int))) = true then (idx i_1 (List.length s : Int) ∧ (idx i_1 (List.length t : Int) ∧ (True ∧ (if (!(decide ((List.getD s (Int.toNat i_1) ([] : List Int)) = (List.getD t (Int.toNat i_1) ([] : List Int))))) = true then (false = y0 ∧ True) else (inI (i_1 + (1 : Int)) ∧ Λ1 (i_1 + (1 : Int))))))) else (true = y0 ∧ True)
theorem cSame8_law (h : ∀ (s : (List (List Int))) (t : (List (List Int))), cSame8.A.wf (s, t, ()) → (s.length ≤ 1000000 ∧ t.length ≤ 1000000) → ∀ (Λ1 : Int → Prop), (∀ (i_1 : Int), cSame8_1 Λ1 s t (decide (s = t)) i_1 → Λ1 i_1) → cSame8_0 Λ1 s t (decide (s = t))) : ConOK Go.Proofs.Try.prog 39 cSame8 := by
  refine lawL (Γ := [(21, cSameI8)]) (Θ := Th) (n := 27) [([1, 1, 0, 1, 0], ⟨[(0, false), (1, false), (5, true)], []⟩)] ⟨cSameI8_ok, trivial⟩ (by kernel_rfl) th_ok mix_ok Go.Proofs.Try.func39 (by kernel_rfl) ?_
  intro x hw hp Λ hC
  have h0 := h x.1 x.2.1 hw hp (fun i_1 => Λ [1, 1, 0, 1, 0] ([(0, .d false (.sl (.sl .int)) x.1), (1, .d false (.sl (.sl .int)) x.2.1), (5, .d true .int i_1)], [])) (fun i_1 hb => hC [1, 1, 0, 1, 0] ([(0, .d false (.sl (.sl .int)) x.1), (1, .d false (.sl (.sl .int)) x.2.1), (5, .d true .int i_1)], []) (Eq.mpr (by kernel_rfl) hb))
  exact Eq.mpr (by kernel_rfl) h0
theorem cSame8_ok : ConOK Go.Proofs.Try.prog 39 cSame8 := by
  refine cSame8_law ?_
  intro s t hw hp Λ1 h1
  unfold cSame8_0
  obtain ⟨p1, p2⟩ := hp
  by_cases hl : s.length = t.length
  · rw [if_neg (by simp [hl])]
    refine upto (n := s.length) (Q := fun i => s.take i = t.take i → Λ1 i) ?_ ?_ 0 (Nat.zero_le _) rfl
    · intro ha
      rw [List.take_length, List.take_of_length_le (by omega)] at ha
      apply h1; unfold cSame8_1; rw [if_neg (by simp)]
      exact ⟨by simp [ha], trivial⟩
    · intro i hi ih ha
      apply h1; unfold cSame8_1; rw [if_pos (by simpa using hi), Int.toNat_natCast]
      refine ⟨idx_nat hi, idx_nat (by omega), trivial, ?_⟩
      by_cases hv : List.getD s i [] = List.getD t i []
      · rw [if_neg (by rw [decide_eq_true hv]; simp)]
        exact ⟨by unfold inI; omega, ih (take_eq_next [] hi hl ha hv)⟩
      · rw [if_pos (by rw [decide_eq_false hv]; rfl)]
        exact ⟨by simp [ne_at [] hv], trivial⟩
  · rw [if_pos (by simp; omega)]
    exact ⟨by simp; exact fun e => hl (by rw [e]), trivial⟩
abbrev cTwistsL : Con := { A := (.cons (.sl (.sl .int)) (.cons (.sl .int) .nil)), R := (.cons .bool .nil), pre := fun x => True, F := fun x => (true, ()) }
def cTwistsL_0  (t : (List (List Int))) (order : (List Int)) (y0 : Bool) : Prop :=
  True ∧ (if (longT t) = true then (true = true ∧ (True ∧ (true = y0 ∧ True))) else (True ∧ (if (bif false then true else (decide ((List.length order : Int) > (50 : Int)))) = true then (True ∧ (true = y0 ∧ True)) else (order.length ≤ 1000000 ∧ (order.length ≤ 1000000 ∧ ((((if ordT t order = 0 then twistT t order else [])).length ≤ 1000000 ∧ ((if ordT t order = 0 then twistT t order else [])).length ≤ 1000000) ∧ (if (!(decide (((if ordT t order = 0 then twistT t order else [])) = ((if ordT t order = 0 then twistT t order else []))))) = true then (true = true ∧ (false = y0 ∧ True)) else (True ∧ (if (bif false then true else ((ordT t order) != (ordT t order))) = true then (false = y0 ∧ True) else (if ((ordT t order) != (0 : Int)) = true then (True ∧ (true = y0 ∧ True)) else (True ∧ (True ∧ (True ∧ (True ∧ (if ((validT t) == (0 : Int)) = true then (True ∧ (if (bif true then ((validT ((if ordT t order = 0 then twistT t order else []))) == (0 : Int)) else false) = true then (True ∧ (if (bif true then ((List.length ((if validT t = 0 then coverS t else [])) : Int) == (List.length ((if validT ((if ordT t order = 0 then twistT t order else [])) = 0 then coverS ((if ordT t order = 0 then twistT t order else [])) else [])) : Int)) else false) = true then (True ∧ (if (bif true then ((validT t) == (0 : Int)) else false) = true then (True ∧ (if (bif true then ((validT ((if ordT t order = 0 then twistT t order else []))) == (0 : Int)) else false) = true then (True ∧ (if (bif true then (((if validT t = 0 then (bestT t).2 else 0)) == ((if validT ((if ordT t order = 0 then twistT t order else [])) = 0 then (bestT ((if ordT t order = 0 then twistT t order else []))).2 else 0))) else false) = true then (True ∧ (True ∧ ((bif true then true else false) = y0 ∧ True))) else (false = false ∧ (false = y0 ∧ True)))) else (false = false ∧ (false = false ∧ (false = y0 ∧ True))))) else (false = false ∧ (false = false ∧ (false = false ∧ (false = y0 ∧ True)))))) else (false = false ∧ (false = false ∧ (false = false ∧ (false = false ∧ (false = y0 ∧ True))))))) else (false = false ∧ (false = false ∧ (false = false ∧ (false = false ∧ (false = false ∧ (false = y0 ∧ True)))))))) else (false = false ∧ (false = false ∧ (false = false ∧ (false = false ∧ (false = false ∧ (false = false ∧ (false = y0 ∧ True))))))))))))))))))))))
theorem cTwistsL_law (h : ∀ (t : (List (List Int))) (order : (List Int)), cTwistsL.A.wf (t, order, ()) → cTwistsL_0  t order true) : ConOK Go.Proofs.Try.prog 15 cTwistsL := by
  refine lawL (Γ := [(43, cBest), (27, cCover), (17, cLong8), (39, cSame8), (18, cSane8), (54, cTwistR), (53, cTwistS)]) (Θ := Th) (n := 102) [] ⟨cBest_ok, cCover_ok, cLong8_ok, cSame8_ok, cSane8_ok, cTwistR_ok, cTwistS_ok, trivial⟩ (by kernel_rfl) th_ok mix_ok Go.Proofs.Try.func15 (by kernel_rfl) ?_
  intro x hw hp Λ hC
  have h0 := h x.1 x.2.1 hw  
  exact Eq.mpr (by kernel_rfl) h0
theorem cTwistsL_ok : ConOK Go.Proofs.Try.prog 15 cTwistsL := by
  refine cTwistsL_law ?_
  intro t order hw
  unfold cTwistsL_0
  refine ⟨trivial, ?_⟩
  cases hL : longT t
  · rw [if_neg (by simp)]
    refine ⟨trivial, ?_⟩
    by_cases hl : order.length > 50
    · rw [if_pos (by simp; omega)]
      exact ⟨trivial, rfl, trivial⟩
    · rw [if_neg (by simp; omega)]
      refine ⟨by omega, by omega, ?_⟩
      by_cases h : ordT t order = 0
      · obtain ⟨ht, hin, hln, hpm⟩ := ordT_ok h
        have h0 := validT_ok.2 ht
        have h0' := validT_ok.2 (tw_ok ht hpm)
        obtain ⟨c, b⟩ := tw_same ht hpm
        have hk := tw_len t order
        have h8 := ht.1
        simp [h, h0, h0', c, b, hk]
        omega
      · simp [h]
  · rw [if_pos rfl]
    exact ⟨rfl, trivial, rfl, trivial⟩
end Go.Tk
