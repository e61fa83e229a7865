import Derived.Test.YtookhknbjofmkaaC1q
import Derived.Test.YtookhknbjofmkaaP2
set_option linter.unusedSimpArgs false
set_option linter.unusedVariables false
namespace Go.Tk
open Go Go.RowKit

abbrev cWithin2 : Con := { A := (.cons .int (.cons .int (.cons .int .nil))), R := (.cons .bool .nil), pre := fun x => True, F := fun x => (within x.1 x.2.1 x.2.2.1, ()) }
def cWithin2_0  (n : Int) (lo : Int) (hi : Int) (y0 : Bool) : Prop :=
  if (decide (lo ≤ n)) = true then (True ∧ ((bif true then (decide (n ≤ hi)) else false) = y0 ∧ True)) else (false = false ∧ (false = y0 ∧ True))
theorem cWithin2_law (h : ∀ (n : Int) (lo : Int) (hi : Int), cWithin2.A.wf (n, lo, hi, ()) → cWithin2_0  n lo hi (within n lo hi)) : ConOK Go.Proofs.Try.prog 129 cWithin2 := by
  refine lawL (Γ := []) (Θ := Th) (n := 15) [] trivial (by kernel_rfl) th_ok mix_ok Go.Proofs.Try.func129 (by kernel_rfl) ?_
  intro x hw hp Λ hC
  have h0 := h x.1 x.2.1 x.2.2.1 hw  
  exact Eq.mpr (by kernel_rfl) h0
theorem cWithin2_ok : ConOK Go.Proofs.Try.prog 129 cWithin2 := by
  refine cWithin2_law ?_
  intro n lo hi hw
  unfold cWithin2_0
  unfold within
  split <;> simp_all
  omega
abbrev cIsVal2 : Con := { A := (.cons .int .nil), R := (.cons .bool .nil), pre := fun x => True, F := fun x => (isVal x.1, ()) }
def cIsVal2_0  (n : Int) (y0 : Bool) : Prop :=
  True ∧ ((within n (-999 : Int) (999 : Int)) = y0 ∧ True)
theorem cIsVal2_law (h : ∀ (n : Int), cIsVal2.A.wf (n, ()) → cIsVal2_0  n (isVal n)) : ConOK Go.Proofs.Try.prog 155 cIsVal2 := by
  refine lawL (Γ := [(129, cWithin2)]) (Θ := Th) (n := 5) [] ⟨cWithin2_ok, trivial⟩ (by kernel_rfl) th_ok mix_ok Go.Proofs.Try.func155 (by kernel_rfl) ?_
  intro x hw hp Λ hC
  have h0 := h x.1 hw  
  exact Eq.mpr (by kernel_rfl) h0
theorem cIsVal2_ok : ConOK Go.Proofs.Try.prog 155 cIsVal2 := by
  refine cIsVal2_law ?_
  intro n hw
  unfold cIsVal2_0
  exact ⟨trivial, rfl, trivial⟩
abbrev cIsReg2 : Con := { A := (.cons .int .nil), R := (.cons .bool .nil), pre := fun x => True, F := fun x => (isReg x.1, ()) }
def cIsReg2_0  (n : Int) (y0 : Bool) : Prop :=
  True ∧ ((within n (0 : Int) (3 : Int)) = y0 ∧ True)
theorem cIsReg2_law (h : ∀ (n : Int), cIsReg2.A.wf (n, ()) → cIsReg2_0  n (isReg n)) : ConOK Go.Proofs.Try.prog 70 cIsReg2 := by
  refine lawL (Γ := [(129, cWithin2)]) (Θ := Th) (n := 5) [] ⟨cWithin2_ok, trivial⟩ (by kernel_rfl) th_ok mix_ok Go.Proofs.Try.func70 (by kernel_rfl) ?_
  intro x hw hp Λ hC
  have h0 := h x.1 hw  
  exact Eq.mpr (by kernel_rfl) h0
theorem cIsReg2_ok : ConOK Go.Proofs.Try.prog 70 cIsReg2 := by
  refine cIsReg2_law ?_
  intro n hw
  unfold cIsReg2_0
  exact ⟨trivial, rfl, trivial⟩
abbrev cIsState : Con := { A := (.cons (.sl .int) .nil), R := (.cons .bool .nil), pre := fun x => True, F := fun x => (validS x.1, ()) }
def cIsState_0  (in_ : (List Int)) (y0 : Bool) : Prop :=
  True ∧ (((argErr (validS in_)) == (0 : Int)) = y0 ∧ True)
theorem cIsState_law (h : ∀ (in_ : (List Int)), cIsState.A.wf (in_, ()) → cIsState_0  in_ (validS in_)) : ConOK Go.Proofs.Try.prog 69 cIsState := by
  refine lawL (Γ := [(83, cValS)]) (Θ := Th) (n := 6) [] ⟨cValS_ok, trivial⟩ (by kernel_rfl) th_ok mix_ok Go.Proofs.Try.func69 (by kernel_rfl) ?_
  intro x hw hp Λ hC
  have h0 := h x.1 hw  
  exact Eq.mpr (by kernel_rfl) h0
theorem cIsState_ok : ConOK Go.Proofs.Try.prog 69 cIsState := by
  refine cIsState_law ?_
  intro in_ hw
  unfold cIsState_0
  refine ⟨trivial, ?_⟩
  cases validS in_ <;> exact ⟨rfl, trivial⟩
abbrev cSize2 : Con := { A := (.cons tCt .nil), R := (.cons .int .nil), pre := fun x => boxC x.1, F := fun x => (sizeC x.1, ()) }
def cSize2_0 (Λ1 : Int → Int → Prop) (c : Ctr) (y0 : Int) : Prop :=
  Λ1 (1 : Int) (0 : Int)
def cSize2_1 (Λ1 : Int → Int → Prop) (c : Ctr) (y0 : Int)  (n_1 : Int) (t9_1 : Int) : Prop :=
  if (decide (t9_1 < (List.length c.1 : Int))) = true then (idx t9_1 (List.length c.1 : Int) ∧ (idx t9_1 (List.length c.2.1 : Int) ∧ (inI ((List.getD c.2.1 (Int.toNat t9_1) 0) - (List.getD c.1 (Int.toNat t9_1) 0)) ∧ (inI (((List.getD c.2.1 (Int.toNat t9_1) 0) - (List.getD c.1 (Int.toNat t9_1) 0)) + (1 : Int)) ∧ (inI (n_1 * (((List.getD c.2.1 (Int.toNat t9_1) 0) - (List.getD c.1 (Int.toNat t9_1) 0)) + (1 : Int))) ∧ (inI (t9_1 + (1 : Int)) ∧ Λ1 (n_1 * (((List.getD c.2.1 (Int.toNat t9_1) 0) - (List.getD c.1 (Int.toNat t9_1) 0)) + (1 : Int))) (t9_1 + (1 : Int)))))))) else (n_1 = y0 ∧ True)
theorem cSize2_law (h : ∀ (c : Ctr), cSize2.A.wf (c, ()) → (boxC c) → ∀ (Λ1 : Int → Int → Prop), (∀ (n_1 : Int) (t9_1 : Int), cSize2_1 Λ1 c (sizeC c) n_1 t9_1 → Λ1 n_1 t9_1) → cSize2_0 Λ1 c (sizeC c)) : ConOK Go.Proofs.Try.prog 67 cSize2 := by
  refine lawL (Γ := []) (Θ := Th) (n := 26) [([1, 1, 0, 1, 0], ⟨[(1, true), (3, true), (7, false), (8, true), (9, true)], [(1, false)]⟩)] trivial (by kernel_rfl) th_ok mix_ok Go.Proofs.Try.func67 (by kernel_rfl) ?_
  intro x hw hp Λ hC
  have h0 := h x.1 hw hp (fun n_1 t9_1 => Λ [1, 1, 0, 1, 0] ([(1, .ptr 1 0 []), (3, .d true .int n_1), (7, .d false (.sl .int) x.1.1), (8, .d true .int (List.length x.1.1 : Int)), (9, .d true .int t9_1)], [(1, .box false tCt x.1)])) (fun n_1 t9_1 hb => hC [1, 1, 0, 1, 0] ([(1, .ptr 1 0 []), (3, .d true .int n_1), (7, .d false (.sl .int) x.1.1), (8, .d true .int (List.length x.1.1 : Int)), (9, .d true .int t9_1)], [(1, .box false tCt x.1)]) (Eq.mpr (by kernel_rfl) hb))
  exact Eq.mpr (by kernel_rfl) h0
theorem cSize2_ok : ConOK Go.Proofs.Try.prog 67 cSize2 := by
  refine cSize2_law ?_
  intro c hw hp Λ1 h1
  unfold cSize2_0
  have l1 := validS_len hp.1
  have l2 := validS_len hp.2.1
  refine upto (n := 4) (Q := fun i => Λ1 (prodTo c.1 c.2.1 i) i) ?_ ?_ 0 (by omega)
  · apply h1; unfold cSize2_1
    rw [if_neg (by rw [l1]; simp)]
    exact ⟨rfl, trivial⟩
  · intro i hi ih
    have g := boxC_wid hp hi
    have b := prodTo_inI hp (i := i) (by omega)
    have b2 := prodTo_inI hp (i := i + 1) (by omega)
    unfold prodTo at ih b2
    apply h1; unfold cSize2_1
    rw [if_pos (by rw [l1]; simp; omega), Int.toNat_natCast]
    exact ⟨⟨by omega, by omega⟩, ⟨by omega, by omega⟩, by unfold inI; omega, by unfold inI; omega, by unfold inI; omega, by unfold inI; omega, ih⟩
abbrev cIsContract : Con := { A := (.cons tCt .nil), R := (.cons .bool .nil), pre := fun x => True, F := fun x => (isCtr x.1, ()) }
def cIsContract_0 (Λ1 : Int → Prop) (c : Ctr) (y0 : Bool) : Prop :=
  True ∧ (if (!(validS c.1)) = true then (true = true ∧ (true = true ∧ (true = true ∧ (true = true ∧ (true = true ∧ (false = y0 ∧ True)))))) else (True ∧ (True ∧ (if (bif false then true else (!(validS c.2.1))) = true then (true = true ∧ (true = true ∧ (true = true ∧ (true = true ∧ (false = y0 ∧ True))))) else (True ∧ (True ∧ (if (bif false then true else (!(isReg c.2.2.1))) = true then (true = true ∧ (true = true ∧ (true = true ∧ (false = y0 ∧ True)))) else (True ∧ (True ∧ (if (bif false then true else (!(isVal c.2.2.2.1))) = true then (true = true ∧ (true = true ∧ (false = y0 ∧ True))) else (True ∧ (True ∧ (if (bif false then true else (!(isVal c.2.2.2.2.1))) = true then (true = true ∧ (false = y0 ∧ True)) else (True ∧ (if (bif false then true else (decide (c.2.2.2.1 > c.2.2.2.2.1))) = true then (false = y0 ∧ True) else Λ1 (0 : Int))))))))))))))))
def cIsContract_1 (Λ1 : Int → Prop) (c : Ctr) (y0 : Bool)  (t43_1 : Int) : Prop :=
  if (decide (t43_1 < (List.length c.1 : Int))) = true then (idx t43_1 (List.length c.1 : Int) ∧ (idx t43_1 (List.length c.2.1 : Int) ∧ (if (decide ((List.getD c.1 (Int.toNat t43_1) 0) > (List.getD c.2.1 (Int.toNat t43_1) 0))) = true then (false = y0 ∧ True) else (inI (t43_1 + (1 : Int)) ∧ Λ1 (t43_1 + (1 : Int)))))) else (true = y0 ∧ True)
theorem cIsContract_law (h : ∀ (c : Ctr), cIsContract.A.wf (c, ()) → ∀ (Λ1 : Int → Prop), (∀ (t43_1 : Int), cIsContract_1 Λ1 c (isCtr c) t43_1 → Λ1 t43_1) → cIsContract_0 Λ1 c (isCtr c)) : ConOK Go.Proofs.Try.prog 131 cIsContract := by
  refine lawL (Γ := [(70, cIsReg2), (69, cIsState), (155, cIsVal2)]) (Θ := Th) (n := 56) [([1, 1, 0, 1, 0], ⟨[(1, true), (41, false), (42, true), (43, true)], [(1, false)]⟩)] ⟨cIsReg2_ok, cIsState_ok, cIsVal2_ok, trivial⟩ (by kernel_rfl) th_ok mix_ok Go.Proofs.Try.func131 (by kernel_rfl) ?_
  intro x hw hp Λ hC
  have h0 := h x.1 hw (fun t43_1 => Λ [1, 1, 0, 1, 0] ([(1, .ptr 1 0 []), (41, .d false (.sl .int) x.1.1), (42, .d true .int (List.length x.1.1 : Int)), (43, .d true .int t43_1)], [(1, .box false tCt x.1)])) (fun t43_1 hb => hC [1, 1, 0, 1, 0] ([(1, .ptr 1 0 []), (41, .d false (.sl .int) x.1.1), (42, .d true .int (List.length x.1.1 : Int)), (43, .d true .int t43_1)], [(1, .box false tCt x.1)]) (Eq.mpr (by kernel_rfl) hb))
  exact Eq.mpr (by kernel_rfl) h0
theorem cIsContract_ok : ConOK Go.Proofs.Try.prog 131 cIsContract := by
  refine cIsContract_law ?_
  intro c hw Λ1 h1
  unfold cIsContract_0
  refine ⟨trivial, ?_⟩
  unfold isCtr
  cases e1 : validS c.1
  · simp
  cases e2 : validS c.2.1
  · simp
  cases e3 : isReg c.2.2.1
  · simp
  cases e4 : isVal c.2.2.2.1
  · simp
  cases e5 : isVal c.2.2.2.2.1
  · simp
  by_cases e6 : c.2.2.2.1 > c.2.2.2.2.1
  · simp [e6]
    exact fun h => absurd h (by omega)
  have l1 := validS_len e1
  have l2 := validS_len e2
  have : Λ1 0 := by
    refine upto (n := 4) (Q := fun i => ((List.zipWith (fun (l h : Int) => decide (l ≤ h)) c.1 c.2.1).take i).all id = true → Λ1 i) ?_ ?_ 0 (by omega) rfl
    · intro ha
      rw [List.take_of_length_le (by simp only [List.length_zipWith]; omega)] at ha
      apply h1; unfold cIsContract_1
      rw [if_neg (by rw [l1]; simp)]
      unfold isCtr lowHigh
      rw [e1, e2, e3, e4, e5, ha]
      exact ⟨by simp; omega, trivial⟩
    · intro i hi ih ha
      apply h1; unfold cIsContract_1
      rw [if_pos (by rw [l1]; simp; omega), Int.toNat_natCast]
      refine ⟨⟨by omega, by omega⟩, ⟨by omega, by omega⟩, ?_⟩
      by_cases g : c.1.getD i 0 ≤ c.2.1.getD i 0
      · rw [if_neg (by simpa using g)]
        exact ⟨by unfold inI; omega, ih (zipAll_next' _ 0 0 (by omega) (by omega) ha (by simpa using g))⟩
      · rw [if_pos (by simpa using g)]
        unfold isCtr lowHigh
        rw [zipAll_false' (fun (l h : Int) => decide (l ≤ h)) 0 0 (i := i) (by omega) (by omega) (by simpa using g)]
        exact ⟨by simp, trivial⟩
  simp [this]
  omega
abbrev cValC : Con := { A := (.cons tCt .nil), R := (.cons .int .nil), pre := fun x => True, F := fun x => (validC x.1, ()) }
def cValC_0  (c : Ctr) (y0 : Int) : Prop :=
  True ∧ (if (!(isCtr c)) = true then ((1 : Int) = y0 ∧ True) else (boxC c ∧ (if (decide ((sizeC c) > (400 : Int))) = true then ((3 : Int) = y0 ∧ True) else ((0 : Int) = y0 ∧ True))))
theorem cValC_law (h : ∀ (c : Ctr), cValC.A.wf (c, ()) → cValC_0  c (validC c)) : ConOK Go.Proofs.Try.prog 66 cValC := by
  refine lawL (Γ := [(131, cIsContract), (67, cSize2)]) (Θ := Th) (n := 9) [] ⟨cIsContract_ok, cSize2_ok, trivial⟩ (by kernel_rfl) th_ok mix_ok Go.Proofs.Try.func66 (by kernel_rfl) ?_
  intro x hw hp Λ hC
  have h0 := h x.1 hw  
  exact Eq.mpr (by kernel_rfl) h0
theorem cValC_ok : ConOK Go.Proofs.Try.prog 66 cValC := by
  refine cValC_law ?_
  intro c hw
  unfold cValC_0
  refine ⟨trivial, ?_⟩
  unfold validC
  cases e : isCtr c
  · exact ⟨rfl, trivial⟩
  · rw [if_neg (by simp)]
    refine ⟨(isCtr_box e).1, ?_⟩
    simp only [decide_eq_true_eq]
    split
    · rw [if_pos trivial]; exact ⟨rfl, trivial⟩
    · rw [if_pos trivial]; exact ⟨rfl, trivial⟩
abbrev cBox2 : Con := { A := (.cons tCt .nil), R := (.cons .int (.cons .int .nil)), pre := fun x => True, F := fun x => ((if validC x.1 = 0 then sizeC x.1 else 0), validC x.1, ()) }
def cBox2_0  (c : Ctr) (y0 : Int) (y1 : Int) : Prop :=
  True ∧ (if ((validC c) != (0 : Int)) = true then ((0 : Int) = y0 ∧ (validC c) = y1 ∧ True) else (boxC c ∧ ((sizeC c) = y0 ∧ (0 : Int) = y1 ∧ True)))
theorem cBox2_law (h : ∀ (c : Ctr), cBox2.A.wf (c, ()) → cBox2_0  c (if validC c = 0 then sizeC c else 0) (validC c)) : ConOK Go.Proofs.Try.prog 14 cBox2 := by
  refine lawL (Γ := [(67, cSize2), (66, cValC)]) (Θ := Th) (n := 12) [] ⟨cSize2_ok, cValC_ok, trivial⟩ (by kernel_rfl) th_ok mix_ok Go.Proofs.Try.func14 (by kernel_rfl) ?_
  intro x hw hp Λ hC
  have h0 := h x.1 hw  
  exact Eq.mpr (by kernel_rfl) h0
theorem cBox2_ok : ConOK Go.Proofs.Try.prog 14 cBox2 := by
  refine cBox2_law ?_
  intro c hw
  unfold cBox2_0
  refine ⟨trivial, ?_⟩
  by_cases h : validC c = 0
  · rw [if_neg (by simp [h]), if_pos h, h]
    exact ⟨(isCtr_box (validC_ok h).1).1, rfl, rfl, trivial⟩
  · rw [if_pos (by simpa using h), if_neg h]
    exact ⟨rfl, rfl, trivial⟩
abbrev cLarge2 : Con := { A := (.cons (.sl .int) .nil), R := (.cons .bool .nil), pre := fun x => True, F := fun x => (decide (100 < x.1.length), ()) }
def cLarge2_0  (l : (List Int)) (y0 : Bool) : Prop :=
  (decide ((List.length l : Int) > (100 : Int))) = y0 ∧ True
theorem cLarge2_law (h : ∀ (l : (List Int)), cLarge2.A.wf (l, ()) → cLarge2_0  l (decide (100 < l.length))) : ConOK Go.Proofs.Try.prog 63 cLarge2 := by
  refine lawL (Γ := []) (Θ := Th) (n := 6) [] trivial (by kernel_rfl) th_ok mix_ok Go.Proofs.Try.func63 (by kernel_rfl) ?_
  intro x hw hp Λ hC
  have h0 := h x.1 hw  
  exact Eq.mpr (by kernel_rfl) h0
theorem cLarge2_ok : ConOK Go.Proofs.Try.prog 63 cLarge2 := by
  refine cLarge2_law ?_
  intro l hw
  unfold cLarge2_0
  exact ⟨by simp; omega, trivial⟩
abbrev cWide : Con := { A := (.cons tCt .nil), R := (.cons .bool .nil), pre := fun x => True, F := fun x => (decide (100 < x.1.1.length ∨ 100 < x.1.2.1.length), ()) }
def cWide_0  (c : Ctr) (y0 : Bool) : Prop :=
  True ∧ (if (decide (100 < c.1.length)) = true then (true = true ∧ (true = y0 ∧ True)) else (True ∧ (True ∧ ((bif false then true else (decide (100 < c.2.1.length))) = y0 ∧ True))))
theorem cWide_law (h : ∀ (c : Ctr), cWide.A.wf (c, ()) → cWide_0  c (decide (100 < c.1.length ∨ 100 < c.2.1.length))) : ConOK Go.Proofs.Try.prog 10 cWide := by
  refine lawL (Γ := [(63, cLarge2)]) (Θ := Th) (n := 11) [] ⟨cLarge2_ok, trivial⟩ (by kernel_rfl) th_ok mix_ok Go.Proofs.Try.func10 (by kernel_rfl) ?_
  intro x hw hp Λ hC
  have h0 := h x.1 hw  
  exact Eq.mpr (by kernel_rfl) h0
theorem cWide_ok : ConOK Go.Proofs.Try.prog 10 cWide := by
  refine cWide_law ?_
  intro c hw
  unfold cWide_0
  refine ⟨trivial, ?_⟩
  by_cases h : 100 < c.1.length
  · simp [h]
  · simp [h]
end Go.Tk
