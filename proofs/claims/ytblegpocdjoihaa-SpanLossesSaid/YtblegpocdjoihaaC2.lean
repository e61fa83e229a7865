import Derived.Test.YtblegpocdjoihaaC1q
import Derived.Test.YtblegpocdjoihaaP2
set_option linter.unusedSimpArgs false
set_option linter.unusedVariables false
namespace Go.Tk
open Go Go.RowKit

abbrev cWithin2 : Con := { A := (.cons .int (.cons .int (.cons .int .nil))), R := (.cons .bool .nil), pre := fun x => True, F := fun x => (within x.1 x.2.1 x.2.2.1, ()) }
def cWithin2_0  (n : Int) (lo : Int) (hi : Int) (y0 : Bool) : Prop :=
  if (decide (lo ≤ n)) = true then (True ∧ ((bif true then (decide (n ≤ hi)) else false) = y0 ∧ True)) else (false = false ∧ (false = y0 ∧ True))
theorem cWithin2_law (h : ∀ (n : Int) (lo : Int) (hi : Int), cWithin2.A.wf (n, lo, hi, ()) → cWithin2_0  n lo hi (within n lo hi)) : ConOK Go.Proofs.Try.prog 150 cWithin2 := by
  refine lawL (Γ := []) (Θ := Th) (n := 15) [] trivial (by kernel_rfl) th_ok mix_ok Go.Proofs.Try.func150 (by kernel_rfl) ?_
  intro x hw hp Λ hC
  have h0 := h x.1 x.2.1 x.2.2.1 hw  
  exact Eq.mpr (by kernel_rfl) h0
theorem cWithin2_ok : ConOK Go.Proofs.Try.prog 150 cWithin2 := by
  refine cWithin2_law ?_
  intro n lo hi hw
  unfold cWithin2_0
  unfold within
  split <;> simp_all
  omega
abbrev cIsVal2 : Con := { A := (.cons .int .nil), R := (.cons .bool .nil), pre := fun x => True, F := fun x => (isVal x.1, ()) }
def cIsVal2_0  (n : Int) (y0 : Bool) : Prop :=
  True ∧ ((within n (-999 : Int) (999 : Int)) = y0 ∧ True)
theorem cIsVal2_law (h : ∀ (n : Int), cIsVal2.A.wf (n, ()) → cIsVal2_0  n (isVal n)) : ConOK Go.Proofs.Try.prog 141 cIsVal2 := by
  refine lawL (Γ := [(150, cWithin2)]) (Θ := Th) (n := 5) [] ⟨cWithin2_ok, trivial⟩ (by kernel_rfl) th_ok mix_ok Go.Proofs.Try.func141 (by kernel_rfl) ?_
  intro x hw hp Λ hC
  have h0 := h x.1 hw  
  exact Eq.mpr (by kernel_rfl) h0
theorem cIsVal2_ok : ConOK Go.Proofs.Try.prog 141 cIsVal2 := by
  refine cIsVal2_law ?_
  intro n hw
  unfold cIsVal2_0
  exact ⟨trivial, rfl, trivial⟩
abbrev cIsReg2 : Con := { A := (.cons .int .nil), R := (.cons .bool .nil), pre := fun x => True, F := fun x => (isReg x.1, ()) }
def cIsReg2_0  (n : Int) (y0 : Bool) : Prop :=
  True ∧ ((within n (0 : Int) (3 : Int)) = y0 ∧ True)
theorem cIsReg2_law (h : ∀ (n : Int), cIsReg2.A.wf (n, ()) → cIsReg2_0  n (isReg n)) : ConOK Go.Proofs.Try.prog 140 cIsReg2 := by
  refine lawL (Γ := [(150, cWithin2)]) (Θ := Th) (n := 5) [] ⟨cWithin2_ok, trivial⟩ (by kernel_rfl) th_ok mix_ok Go.Proofs.Try.func140 (by kernel_rfl) ?_
  intro x hw hp Λ hC
  have h0 := h x.1 hw  
  exact Eq.mpr (by kernel_rfl) h0
theorem cIsReg2_ok : ConOK Go.Proofs.Try.prog 140 cIsReg2 := by
  refine cIsReg2_law ?_
  intro n hw
  unfold cIsReg2_0
  exact ⟨trivial, rfl, trivial⟩
abbrev cIsState : Con := { A := (.cons (.sl .int) .nil), R := (.cons .bool .nil), pre := fun x => True, F := fun x => (validS x.1, ()) }
def cIsState_0  (in_ : (List Int)) (y0 : Bool) : Prop :=
  True ∧ (((argErr (validS in_)) == (0 : Int)) = y0 ∧ True)
theorem cIsState_law (h : ∀ (in_ : (List Int)), cIsState.A.wf (in_, ()) → cIsState_0  in_ (validS in_)) : ConOK Go.Proofs.Try.prog 139 cIsState := by
  refine lawL (Γ := [(79, cValS)]) (Θ := Th) (n := 6) [] ⟨cValS_ok, trivial⟩ (by kernel_rfl) th_ok mix_ok Go.Proofs.Try.func139 (by kernel_rfl) ?_
  intro x hw hp Λ hC
  have h0 := h x.1 hw  
  exact Eq.mpr (by kernel_rfl) h0
theorem cIsState_ok : ConOK Go.Proofs.Try.prog 139 cIsState := by
  refine cIsState_law ?_
  intro in_ hw
  unfold cIsState_0
  refine ⟨trivial, ?_⟩
  cases validS in_ <;> exact ⟨rfl, trivial⟩
abbrev cSize2 : Con := { A := (.cons tCt .nil), R := (.cons .int .nil), pre := fun x => boxC x.1, F := fun x => (sizeC x.1, ()) }
def cSize2_0 (Λ1 : Int → Int → Prop) (c : Ctr) (y0 : Int) : Prop :=
  Λ1 (1 : Int) (0 : Int)
def cSize2_1 (Λ1 : Int → Int → Prop) (c : Ctr) (y0 : Int)  (n_1 : Int) (t9_1 : Int) : Prop :=
  if (decide (t9_1 < (List.length c.1 : Int))) = true then (idx t9_1 (List.length c.1 : Int) ∧ (idx t9_1 (List.length c.2.1 : Int) ∧ (inI ((List.getD c.2.1 (Int.toNat t9_1) 0) - (List.getD c.1 (Int.toNat t9_1) 0)) ∧ (inI (((List.getD c.2.1 (Int.toNat t9_1) 0) - (List.getD c.1 (Int.toNat t9_1) 0)) + (1 : Int)) ∧ (inI (n_1 * (((List.getD c.2.1 (Int.toNat t9_1) 0) - (List.getD c.1 (Int.toNat t9_1) 0)) + (1 : Int))) ∧ (inI (t9_1 + (1 : Int)) ∧ Λ1 (n_1 * (((List.getD c.2.1 (Int.toNat t9_1) 0) - (List.getD c.1 (Int.toNat t9_1) 0)) + (1 : Int))) (t9_1 + (1 : Int)))))))) else (n_1 = y0 ∧ True)
theorem cSize2_law (h : ∀ (c : Ctr), cSize2.A.wf (c, ()) → (boxC c) → ∀ (Λ1 : Int → Int → Prop), (∀ (n_1 : Int) (t9_1 : Int), cSize2_1 Λ1 c (sizeC c) n_1 t9_1 → Λ1 n_1 t9_1) → cSize2_0 Λ1 c (sizeC c)) : ConOK Go.Proofs.Try.prog 93 cSize2 := by
  refine lawL (Γ := []) (Θ := Th) (n := 26) [([1, 1, 0, 1, 0], ⟨[(1, true), (3, true), (7, false), (8, true), (9, true)], [(1, false)]⟩)] trivial (by kernel_rfl) th_ok mix_ok Go.Proofs.Try.func93 (by kernel_rfl) ?_
  intro x hw hp Λ hC
  have h0 := h x.1 hw hp (fun n_1 t9_1 => Λ [1, 1, 0, 1, 0] ([(1, .ptr 1 0 []), (3, .d true .int n_1), (7, .d false (.sl .int) x.1.1), (8, .d true .int (List.length x.1.1 : Int)), (9, .d true .int t9_1)], [(1, .box false tCt x.1)])) (fun n_1 t9_1 hb => hC [1, 1, 0, 1, 0] ([(1, .ptr 1 0 []), (3, .d true .int n_1), (7, .d false (.sl .int) x.1.1), (8, .d true .int (List.length x.1.1 : Int)), (9, .d true .int t9_1)], [(1, .box false tCt x.1)]) (Eq.mpr (by kernel_rfl) hb))
  exact Eq.mpr (by kernel_rfl) h0
theorem cSize2_ok : ConOK Go.Proofs.Try.prog 93 cSize2 := by
  refine cSize2_law ?_
  intro c hw hp Λ1 h1
  unfold cSize2_0
  have l1 := validS_len hp.1
  have l2 := validS_len hp.2.1
  refine upto (n := 4) (Q := fun i => Λ1 (prodTo c.1 c.2.1 i) i) ?_ ?_ 0 (by omega)
  · apply h1; unfold cSize2_1
    rw [if_neg (by rw [l1]; simp)]
    exact ⟨rfl, trivial⟩
  · intro i hi ih
    have g := boxC_wid hp hi
    have b := prodTo_inI hp (i := i) (by omega)
    have b2 := prodTo_inI hp (i := i + 1) (by omega)
    unfold prodTo at ih b2
    apply h1; unfold cSize2_1
    rw [if_pos (by rw [l1]; simp; omega), Int.toNat_natCast]
    exact ⟨⟨by omega, by omega⟩, ⟨by omega, by omega⟩, by unfold inI; omega, by unfold inI; omega, by unfold inI; omega, by unfold inI; omega, ih⟩
abbrev cIsContract : Con := { A := (.cons tCt .nil), R := (.cons .bool .nil), pre := fun x => True, F := fun x => (isCtr x.1, ()) }
def cIsContract_0 (Λ1 : Int → Prop) (c : Ctr) (y0 : Bool) : Prop :=
  True ∧ (if (!(validS c.1)) = true then (true = true ∧ (true = true ∧ (true = true ∧ (true = true ∧ (true = true ∧ (false = y0 ∧ True)))))) else (True ∧ (True ∧ (if (bif false then true else (!(validS c.2.1))) = true then (true = true ∧ (true = true ∧ (true = true ∧ (true = true ∧ (false = y0 ∧ True))))) else (True ∧ (True ∧ (if (bif false then true else (!(isReg c.2.2.1))) = true then (true = true ∧ (true = true ∧ (true = true ∧ (false = y0 ∧ True)))) else (True ∧ (True ∧ (if (bif false then true else (!(isVal c.2.2.2.1))) = true then (true = true ∧ (true = true ∧ (false = y0 ∧ True))) else (True ∧ (True ∧ (if (bif false then true else (!(isVal c.2.2.2.2.1))) = true then (true = true ∧ (false = y0 ∧ True)) else (True ∧ (if (bif false then true else (decide (c.2.2.2.1 > c.2.2.2.2.1))) = true then (false = y0 ∧ True) else Λ1 (0 : Int))))))))))))))))
def cIsContract_1 (Λ1 : Int → Prop) (c : Ctr) (y0 : Bool)  (t43_1 : Int) : Prop :=
  if (decide (t43_1 < (List.length c.1 : Int))) = true then (idx t43_1 (List.length c.1 : Int) ∧ (idx t43_1 (List.length c.2.1 : Int) ∧ (if (decide ((List.getD c.1 (Int.toNat t43_1) 0) > (List.getD c.2.1 (Int.toNat t43_1) 0))) = true then (false = y0 ∧ True) else (inI (t43_1 + (1 : Int)) ∧ Λ1 (t43_1 + (1 : Int)))))) else (true = y0 ∧ True)
theorem cIsContract_law (h : ∀ (c : Ctr), cIsContract.A.wf (c, ()) → ∀ (Λ1 : Int → Prop), (∀ (t43_1 : Int), cIsContract_1 Λ1 c (isCtr c) t43_1 → Λ1 t43_1) → cIsContract_0 Λ1 c (isCtr c)) : ConOK Go.Proofs.Try.prog 118 cIsContract := by
  refine lawL (Γ := [(140, cIsReg2), (139, cIsState), (141, cIsVal2)]) (Θ := Th) (n := 56) [([1, 1, 0, 1, 0], ⟨[(1, true), (41, false), (42, true), (43, true)], [(1, false)]⟩)] ⟨cIsReg2_ok, cIsState_ok, cIsVal2_ok, trivial⟩ (by kernel_rfl) th_ok mix_ok Go.Proofs.Try.func118 (by kernel_rfl) ?_
  intro x hw hp Λ hC
  have h0 := h x.1 hw (fun t43_1 => Λ [1, 1, 0, 1, 0] ([(1, .ptr 1 0 []), (41, .d false (.sl .int) x.1.1), (42, .d true .int (List.length x.1.1 : Int)), (43, .d true .int t43_1)], [(1, .box false tCt x.1)])) (fun t43_1 hb => hC [1, 1, 0, 1, 0] ([(1, .ptr 1 0 []), (41, .d false (.sl .int) x.1.1), (42, .d true .int (List.length x.1.1 : Int)), (43, .d true .int t43_1)], [(1, .box false tCt x.1)]) (Eq.mpr (by kernel_rfl) hb))
  exact Eq.mpr (by kernel_rfl) h0
theorem cIsContract_ok : ConOK Go.Proofs.Try.prog 118 cIsContract := by
  refine cIsContract_law ?_
  intro c hw Λ1 h1
  unfold cIsContract_0
  refine ⟨trivial, ?_⟩
  unfold isCtr
  cases e1 : validS c.1
  · simp
  cases e2 : validS c.2.1
  · simp
  cases e3 : isReg c.2.2.1
  · simp
  cases e4 : isVal c.2.2.2.1
  · simp
  cases e5 : isVal c.2.2.2.2.1
  · simp
  by_cases e6 : c.2.2.2.1 > c.2.2.2.2.1
  · simp [e6]
    exact fun h => absurd h (by omega)
  have l1 := validS_len e1
  have l2 := validS_len e2
  have : Λ1 0 := by
    refine upto (n := 4) (Q := fun i => ((List.zipWith (fun (l h : Int) => decide (l ≤ h)) c.1 c.2.1).take i).all id = true → Λ1 i) ?_ ?_ 0 (by omega) rfl
    · intro ha
      rw [List.take_of_length_le (by simp only [List.length_zipWith]; omega)] at ha
      apply h1; unfold cIsContract_1
      rw [if_neg (by rw [l1]; simp)]
      unfold isCtr lowHigh
      rw [e1, e2, e3, e4, e5, ha]
      exact ⟨by simp; omega, trivial⟩
    · intro i hi ih ha
      apply h1; unfold cIsContract_1
      rw [if_pos (by rw [l1]; simp; omega), Int.toNat_natCast]
      refine ⟨⟨by omega, by omega⟩, ⟨by omega, by omega⟩, ?_⟩
      by_cases g : c.1.getD i 0 ≤ c.2.1.getD i 0
      · rw [if_neg (by simpa using g)]
        exact ⟨by unfold inI; omega, ih (zipAll_next' _ 0 0 (by omega) (by omega) ha (by simpa using g))⟩
      · rw [if_pos (by simpa using g)]
        unfold isCtr lowHigh
        rw [zipAll_false' (fun (l h : Int) => decide (l ≤ h)) 0 0 (i := i) (by omega) (by omega) (by simpa using g)]
        exact ⟨by simp, trivial⟩
  simp [this]
  omega
abbrev cValC : Con := { A := (.cons tCt .nil), R := (.cons .int .nil), pre := fun x => True, F := fun x => (validC x.1, ()) }
def cValC_0  (c : Ctr) (y0 : Int) : Prop :=
  True ∧ (if (!(isCtr c)) = true then ((1 : Int) = y0 ∧ True) else (boxC c ∧ (if (decide ((sizeC c) > (400 : Int))) = true then ((3 : Int) = y0 ∧ True) else ((0 : Int) = y0 ∧ True))))
theorem cValC_law (h : ∀ (c : Ctr), cValC.A.wf (c, ()) → cValC_0  c (validC c)) : ConOK Go.Proofs.Try.prog 89 cValC := by
  refine lawL (Γ := [(118, cIsContract), (93, cSize2)]) (Θ := Th) (n := 9) [] ⟨cIsContract_ok, cSize2_ok, trivial⟩ (by kernel_rfl) th_ok mix_ok Go.Proofs.Try.func89 (by kernel_rfl) ?_
  intro x hw hp Λ hC
  have h0 := h x.1 hw  
  exact Eq.mpr (by kernel_rfl) h0
theorem cValC_ok : ConOK Go.Proofs.Try.prog 89 cValC := by
  refine cValC_law ?_
  intro c hw
  unfold cValC_0
  refine ⟨trivial, ?_⟩
  unfold validC
  cases e : isCtr c
  · exact ⟨rfl, trivial⟩
  · rw [if_neg (by simp)]
    refine ⟨(isCtr_box e).1, ?_⟩
    simp only [decide_eq_true_eq]
    split
    · rw [if_pos trivial]; exact ⟨rfl, trivial⟩
    · rw [if_pos trivial]; exact ⟨rfl, trivial⟩
abbrev cBox2 : Con := { A := (.cons tCt .nil), R := (.cons .int (.cons .int .nil)), pre := fun x => True, F := fun x => ((if validC x.1 = 0 then sizeC x.1 else 0), validC x.1, ()) }
def cBox2_0  (c : Ctr) (y0 : Int) (y1 : Int) : Prop :=
  True ∧ (if ((validC c) != (0 : Int)) = true then ((0 : Int) = y0 ∧ (validC c) = y1 ∧ True) else (boxC c ∧ ((sizeC c) = y0 ∧ (0 : Int) = y1 ∧ True)))
theorem cBox2_law (h : ∀ (c : Ctr), cBox2.A.wf (c, ()) → cBox2_0  c (if validC c = 0 then sizeC c else 0) (validC c)) : ConOK Go.Proofs.Try.prog 47 cBox2 := by
  refine lawL (Γ := [(93, cSize2), (89, cValC)]) (Θ := Th) (n := 12) [] ⟨cSize2_ok, cValC_ok, trivial⟩ (by kernel_rfl) th_ok mix_ok Go.Proofs.Try.func47 (by kernel_rfl) ?_
  intro x hw hp Λ hC
  have h0 := h x.1 hw  
  exact Eq.mpr (by kernel_rfl) h0
theorem cBox2_ok : ConOK Go.Proofs.Try.prog 47 cBox2 := by
  refine cBox2_law ?_
  intro c hw
  unfold cBox2_0
  refine ⟨trivial, ?_⟩
  by_cases h : validC c = 0
  · rw [if_neg (by simp [h]), if_pos h, h]
    exact ⟨(isCtr_box (validC_ok h).1).1, rfl, rfl, trivial⟩
  · rw [if_pos (by simpa using h), if_neg h]
    exact ⟨rfl, rfl, trivial⟩
abbrev cWithinR2 : Con := { A := (.cons .int (.cons .int (.cons .int .nil))), R := (.cons .bool .nil), pre := fun x => True, F := fun x => (within x.1 x.2.1 x.2.2.1, ()) }
def cWithinR2_0  (n : Int) (lo : Int) (hi : Int) (y0 : Bool) : Prop :=
  if (decide (n ≥ lo)) = true then (True ∧ ((bif true then (decide (n ≤ hi)) else false) = y0 ∧ True)) else (false = false ∧ (false = y0 ∧ True))
theorem cWithinR2_law (h : ∀ (n : Int) (lo : Int) (hi : Int), cWithinR2.A.wf (n, lo, hi, ()) → cWithinR2_0  n lo hi (within n lo hi)) : ConOK Go.Proofs.Try.prog 119 cWithinR2 := by
  refine lawL (Γ := []) (Θ := Th) (n := 15) [] trivial (by kernel_rfl) th_ok mix_ok Go.Proofs.Try.func119 (by kernel_rfl) ?_
  intro x hw hp Λ hC
  have h0 := h x.1 x.2.1 x.2.2.1 hw  
  exact Eq.mpr (by kernel_rfl) h0
theorem cWithinR2_ok : ConOK Go.Proofs.Try.prog 119 cWithinR2 := by
  refine cWithinR2_law ?_
  intro n lo hi hw
  unfold cWithinR2_0
  unfold within
  split <;> simp_all
  omega
abbrev cBoxR2 : Con := { A := (.cons tCt .nil), R := (.cons .int .nil), pre := fun x => boxC x.1, F := fun x => (min (sizeC x.1) 401, ()) }
def cBoxR2_0 (Λ1 : Int → Int → Prop) (c : Ctr) (y0 : Int) : Prop :=
  Λ1 (1 : Int) (0 : Int)
def cBoxR2_1 (Λ1 : Int → Int → Prop) (c : Ctr) (y0 : Int)  (n_1 : Int) (i_1 : Int) : Prop :=
  if (decide (i_1 < (4 : Int))) = true then (idx i_1 (List.length c.2.1 : Int) ∧ (idx i_1 (List.length c.1 : Int) ∧ (inI ((List.getD c.2.1 (Int.toNat i_1) 0) - (List.getD c.1 (Int.toNat i_1) 0)) ∧ (inI (((List.getD c.2.1 (Int.toNat i_1) 0) - (List.getD c.1 (Int.toNat i_1) 0)) + (1 : Int)) ∧ (inI (n_1 * (((List.getD c.2.1 (Int.toNat i_1) 0) - (List.getD c.1 (Int.toNat i_1) 0)) + (1 : Int))) ∧ (inI (i_1 + (1 : Int)) ∧ Λ1 (min (n_1 * (((List.getD c.2.1 (Int.toNat i_1) 0) - (List.getD c.1 (Int.toNat i_1) 0)) + (1 : Int))) (401 : Int)) (i_1 + (1 : Int)))))))) else (n_1 = y0 ∧ True)
theorem cBoxR2_law (h : ∀ (c : Ctr), cBoxR2.A.wf (c, ()) → (boxC c) → ∀ (Λ1 : Int → Int → Prop), (∀ (n_1 : Int) (i_1 : Int), cBoxR2_1 Λ1 c (min (sizeC c) 401) n_1 i_1 → Λ1 n_1 i_1) → cBoxR2_0 Λ1 c (min (sizeC c) 401)) : ConOK Go.Proofs.Try.prog 120 cBoxR2 := by
  refine lawL (Γ := []) (Θ := Th) (n := 25) [([1, 1, 0, 1, 0], ⟨[(1, true), (3, true), (4, true)], [(1, false)]⟩)] trivial (by kernel_rfl) th_ok mix_ok Go.Proofs.Try.func120 (by kernel_rfl) ?_
  intro x hw hp Λ hC
  have h0 := h x.1 hw hp (fun n_1 i_1 => Λ [1, 1, 0, 1, 0] ([(1, .ptr 1 0 []), (3, .d true .int n_1), (4, .d true .int i_1)], [(1, .box false tCt x.1)])) (fun n_1 i_1 hb => hC [1, 1, 0, 1, 0] ([(1, .ptr 1 0 []), (3, .d true .int n_1), (4, .d true .int i_1)], [(1, .box false tCt x.1)]) (Eq.mpr (by kernel_rfl) hb))
  exact Eq.mpr (by kernel_rfl) h0
theorem cBoxR2_ok : ConOK Go.Proofs.Try.prog 120 cBoxR2 := by
  refine cBoxR2_law ?_
  intro c hw hp Λ1 h1
  unfold cBoxR2_0
  have l1 := validS_len hp.1
  have l2 := validS_len hp.2.1
  refine upto (n := 4) (Q := fun i => Λ1 (min (prodTo c.1 c.2.1 i) 401) i) ?_ ?_ 0 (by omega)
  · apply h1; unfold cBoxR2_1
    rw [if_neg (by simp)]
    exact ⟨rfl, trivial⟩
  · intro i hi ih
    have g := boxC_wid hp hi
    have b := prodTo_inI hp (i := i) (by omega)
    unfold prodTo at ih
    rw [← min_step b.1 (by omega)] at ih
    have m := mul_bd (a := min (prodTo c.1 c.2.1 i) 401) (A := 401) (b := c.2.1.getD i 0 - c.1.getD i 0 + 1) (by omega) (by omega) (by omega) (by omega)
    apply h1; unfold cBoxR2_1
    rw [if_pos (by simp; omega), Int.toNat_natCast]
    exact ⟨⟨by omega, by omega⟩, ⟨by omega, by omega⟩, by unfold inI; omega, by unfold inI; omega, by unfold inI; omega, by unfold inI; omega, ih⟩
abbrev cValCR : Con := { A := (.cons tCt .nil), R := (.cons .int .nil), pre := fun x => True, F := fun x => (validC x.1, ()) }
def cValCR_0 (Λ1 : Int → Prop) (c : Ctr) (y0 : Int) : Prop :=
  True ∧ (if ((argErr (validS c.1)) != (0 : Int)) = true then (true = true ∧ ((1 : Int) = y0 ∧ True)) else (True ∧ (True ∧ (if (bif false then true else ((argErr (validS c.2.1)) != (0 : Int))) = true then ((1 : Int) = y0 ∧ True) else Λ1 (0 : Int)))))
def cValCR_1 (Λ1 : Int → Prop) (c : Ctr) (y0 : Int)  (i_1 : Int) : Prop :=
  if (decide (i_1 < (4 : Int))) = true then (idx i_1 (List.length c.1 : Int) ∧ (idx i_1 (List.length c.2.1 : Int) ∧ (if (decide ((List.getD c.1 (Int.toNat i_1) 0) > (List.getD c.2.1 (Int.toNat i_1) 0))) = true then ((1 : Int) = y0 ∧ True) else (inI (i_1 + (1 : Int)) ∧ Λ1 (i_1 + (1 : Int)))))) else (True ∧ (if (!(within c.2.2.1 (0 : Int) (3 : Int))) = true then (true = true ∧ (true = true ∧ (true = true ∧ ((1 : Int) = y0 ∧ True)))) else (True ∧ (True ∧ (if (bif false then true else (!(within c.2.2.2.1 (-999 : Int) (999 : Int)))) = true then (true = true ∧ (true = true ∧ ((1 : Int) = y0 ∧ True))) else (True ∧ (True ∧ (if (bif false then true else (!(within c.2.2.2.2.1 (-999 : Int) (999 : Int)))) = true then (true = true ∧ ((1 : Int) = y0 ∧ True)) else (True ∧ (if (bif false then true else (decide (c.2.2.2.1 > c.2.2.2.2.1))) = true then ((1 : Int) = y0 ∧ True) else (boxC c ∧ (if (decide ((min (sizeC c) 401) > (400 : Int))) = true then ((3 : Int) = y0 ∧ True) else ((0 : Int) = y0 ∧ True)))))))))))))
theorem cValCR_law (h : ∀ (c : Ctr), cValCR.A.wf (c, ()) → ∀ (Λ1 : Int → Prop), (∀ (i_1 : Int), cValCR_1 Λ1 c (validC c) i_1 → Λ1 i_1) → cValCR_0 Λ1 c (validC c)) : ConOK Go.Proofs.Try.prog 91 cValCR := by
  refine lawL (Γ := [(120, cBoxR2), (82, cValSR), (119, cWithinR2)]) (Θ := Th) (n := 55) [([1, 1, 0, 1, 0], ⟨[(1, true), (3, true)], [(1, false)]⟩)] ⟨cBoxR2_ok, cValSR_ok, cWithinR2_ok, trivial⟩ (by kernel_rfl) th_ok mix_ok Go.Proofs.Try.func91 (by kernel_rfl) ?_
  intro x hw hp Λ hC
  have h0 := h x.1 hw (fun i_1 => Λ [1, 1, 0, 1, 0] ([(1, .ptr 1 0 []), (3, .d true .int i_1)], [(1, .box false tCt x.1)])) (fun i_1 hb => hC [1, 1, 0, 1, 0] ([(1, .ptr 1 0 []), (3, .d true .int i_1)], [(1, .box false tCt x.1)]) (Eq.mpr (by kernel_rfl) hb))
  exact Eq.mpr (by kernel_rfl) h0
theorem cValCR_ok : ConOK Go.Proofs.Try.prog 91 cValCR := by
  refine cValCR_law ?_
  intro c hw Λ1 h1
  unfold cValCR_0
  refine ⟨trivial, ?_⟩
  cases e1 : validS c.1
  · have : validC c = 1 := by unfold validC isCtr; rw [e1]; rfl
    rw [this]; exact ⟨rfl, rfl, trivial⟩
  cases e2 : validS c.2.1
  · have : validC c = 1 := by unfold validC isCtr; rw [e2]; simp
    rw [this]; exact ⟨trivial, trivial, rfl, trivial⟩
  have l1 := validS_len e1
  have l2 := validS_len e2
  have : Λ1 0 := by
    refine upto (n := 4) (Q := fun i => ((List.zipWith (fun (l h : Int) => decide (l ≤ h)) c.1 c.2.1).take i).all id = true → Λ1 i) ?_ ?_ 0 (by omega) rfl
    · intro ha
      rw [List.take_of_length_le (by simp only [List.length_zipWith]; omega)] at ha
      have hlh : lowHigh c = true := ha
      apply h1; unfold cValCR_1
      rw [if_neg (by simp)]
      refine ⟨trivial, ?_⟩
      have hv : validC c = if (isReg c.2.2.1 && isVal c.2.2.2.1 && isVal c.2.2.2.2.1 && decide (c.2.2.2.1 ≤ c.2.2.2.2.1)) = true then (if sizeC c > 400 then 3 else 0) else 1 := by
        unfold validC isCtr
        rw [e1, e2, hlh]
        simp
      rw [hv]
      unfold isReg isVal
      cases e3 : within c.2.2.1 0 3
      · simp
      cases e4 : within c.2.2.2.1 (-999) 999
      · simp
      cases e5 : within c.2.2.2.2.1 (-999) 999
      · simp
      by_cases e6 : c.2.2.2.1 > c.2.2.2.2.1
      · have : ¬ c.2.2.2.1 ≤ c.2.2.2.2.1 := by omega
        simp [e6, this]
      · have e7 : c.2.2.2.1 ≤ c.2.2.2.2.1 := by omega
        have hb : boxC c := ⟨e1, e2, hlh⟩
        by_cases e8 : sizeC c > 400
        · have : min (sizeC c) 401 > 400 := by omega
          simp [e6, e7, hb, e8, this]
        · have : ¬ min (sizeC c) 401 > 400 := by omega
          simp [e6, e7, hb, e8, this]
    · intro i hi ih ha
      apply h1; unfold cValCR_1
      rw [if_pos (by simp; omega), Int.toNat_natCast]
      refine ⟨⟨by omega, by omega⟩, ⟨by omega, by omega⟩, ?_⟩
      by_cases g : c.1.getD i 0 ≤ c.2.1.getD i 0
      · rw [if_neg (by simpa using g)]
        exact ⟨by unfold inI; omega, ih (zipAll_next' _ 0 0 (by omega) (by omega) ha (by simpa using g))⟩
      · rw [if_pos (by simpa using g)]
        have : validC c = 1 := by
          unfold validC isCtr lowHigh
          rw [zipAll_false' (fun (l h : Int) => decide (l ≤ h)) 0 0 (i := i) (by omega) (by omega) (by simpa using g)]
          simp
        exact ⟨this.symm, trivial⟩
  exact ⟨trivial, trivial, this⟩
abbrev cLarge2 : Con := { A := (.cons (.sl .int) .nil), R := (.cons .bool .nil), pre := fun x => True, F := fun x => (decide (100 < x.1.length), ()) }
def cLarge2_0  (l : (List Int)) (y0 : Bool) : Prop :=
  (decide ((List.length l : Int) > (100 : Int))) = y0 ∧ True
theorem cLarge2_law (h : ∀ (l : (List Int)), cLarge2.A.wf (l, ()) → cLarge2_0  l (decide (100 < l.length))) : ConOK Go.Proofs.Try.prog 88 cLarge2 := by
  refine lawL (Γ := []) (Θ := Th) (n := 6) [] trivial (by kernel_rfl) th_ok mix_ok Go.Proofs.Try.func88 (by kernel_rfl) ?_
  intro x hw hp Λ hC
  have h0 := h x.1 hw  
  exact Eq.mpr (by kernel_rfl) h0
theorem cLarge2_ok : ConOK Go.Proofs.Try.prog 88 cLarge2 := by
  refine cLarge2_law ?_
  intro l hw
  unfold cLarge2_0
  exact ⟨by simp; omega, trivial⟩
abbrev cWide : Con := { A := (.cons tCt .nil), R := (.cons .bool .nil), pre := fun x => True, F := fun x => (decide (100 < x.1.1.length ∨ 100 < x.1.2.1.length), ()) }
def cWide_0  (c : Ctr) (y0 : Bool) : Prop :=
  True ∧ (if (decide (100 < c.1.length)) = true then (true = true ∧ (true = y0 ∧ True)) else (True ∧ (True ∧ ((bif false then true else (decide (100 < c.2.1.length))) = y0 ∧ True))))
theorem cWide_law (h : ∀ (c : Ctr), cWide.A.wf (c, ()) → cWide_0  c (decide (100 < c.1.length ∨ 100 < c.2.1.length))) : ConOK Go.Proofs.Try.prog 44 cWide := by
  refine lawL (Γ := [(88, cLarge2)]) (Θ := Th) (n := 11) [] ⟨cLarge2_ok, trivial⟩ (by kernel_rfl) th_ok mix_ok Go.Proofs.Try.func44 (by kernel_rfl) ?_
  intro x hw hp Λ hC
  have h0 := h x.1 hw  
  exact Eq.mpr (by kernel_rfl) h0
theorem cWide_ok : ConOK Go.Proofs.Try.prog 44 cWide := by
  refine cWide_law ?_
  intro c hw
  unfold cWide_0
  refine ⟨trivial, ?_⟩
  by_cases h : 100 < c.1.length
  · simp [h]
  · simp [h]
end Go.Tk
