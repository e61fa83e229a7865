import Derived.Test.YthjkkjnnkkekeaaC1r
set_option linter.unusedSimpArgs false
set_option linter.unusedVariables false
namespace Go.Tk
open Go Go.RowKit

abbrev cWritesR : Con := { A := (.cons tL .nil), R := (.cons .bool .nil), pre := fun x => True, F := fun x => (!(x.1.1 == 0) && !(x.1.1 == 7), ()) }
def cWritesR_0  (l : Lin) (y0 : Bool) : Prop :=
  if (l.1 != (0 : Int)) = true then (True ∧ ((bif true then (l.1 != (7 : Int)) else false) = y0 ∧ True)) else (false = false ∧ (false = y0 ∧ True))
theorem cWritesR_law (h : ∀ (l : Lin), cWritesR.A.wf (l, ()) → cWritesR_0  l (!(l.1 == 0) && !(l.1 == 7))) : ConOK Go.Proofs.Try.prog 158 cWritesR := by
  refine lawL (Γ := []) (Θ := Th) (n := 11) [] trivial (by kernel_rfl) th_ok mix_ok Go.Proofs.Try.func158 (by kernel_rfl) ?_
  intro x hw hp Λ hC
  have h0 := h x.1 hw  
  exact Eq.mpr (by kernel_rfl) h0
theorem cWritesR_ok : ConOK Go.Proofs.Try.prog 158 cWritesR := by
  refine cWritesR_law ?_
  intro l hw
  unfold cWritesR_0
  by_cases h : l.1 = 0 <;> by_cases h7 : l.1 = 7 <;> simp [h, h7, bne]
theorem writes_eq {l : Lin} (h : validLine l = true) : (!(l.1 == 0) && !(l.1 == 7)) = writes l := by
  have hr := line_regs h
  unfold writes
  rw [Bool.eq_iff_iff]
  simp only [Bool.and_eq_true, Bool.not_eq_true', beq_eq_false_iff_ne, decide_eq_true_eq]
  omega

abbrev cCutR : Con := { A := (.cons .int .nil), R := (.cons .int .nil), pre := fun x => True, F := fun x => (cut x.1, ()) }
def cCutR_0  (n : Int) (y0 : Int) : Prop :=
  if (decide (n < (-999 : Int))) = true then ((-999 : Int) = y0 ∧ True) else (if (decide (n > (999 : Int))) = true then ((999 : Int) = y0 ∧ True) else (n = y0 ∧ True))
theorem cCutR_law (h : ∀ (n : Int), cCutR.A.wf (n, ()) → cCutR_0  n (cut n)) : ConOK Go.Proofs.Try.prog 171 cCutR := by
  refine lawL (Γ := []) (Θ := Th) (n := 8) [] trivial (by kernel_rfl) th_ok mix_ok Go.Proofs.Try.func171 (by kernel_rfl) ?_
  intro x hw hp Λ hC
  have h0 := h x.1 hw  
  exact Eq.mpr (by kernel_rfl) h0
theorem cCutR_ok : ConOK Go.Proofs.Try.prog 171 cCutR := by
  refine cCutR_law ?_
  intro n hw
  unfold cCutR_0
  unfold cut
  simp only [decide_eq_true_eq]
  split
  · exact ⟨by omega, trivial⟩
  · split
    · exact ⟨by omega, trivial⟩
    · exact ⟨by omega, trivial⟩
abbrev cValueR : Con := { A := (.cons tL (.cons (.sl .int) .nil)), R := (.cons .int .nil), pre := fun x => validLine x.1 = true ∧ writes x.1 = true ∧ validS x.2.1 = true, F := fun x => (cut (wval x.1 x.2.1), ()) }
def cValueR_0  (l : Lin) (s : (List Int)) (y0 : Int) : Prop :=
  if (l.1 == (1 : Int)) = true then (l.2.2.1 = y0 ∧ True) else (idx l.2.2.1 (List.length s : Int) ∧ (idx l.2.2.2.1 (List.length s : Int) ∧ (if (l.1 == (3 : Int)) = true then (inI ((List.getD s (Int.toNat l.2.2.1) 0) + (List.getD s (Int.toNat l.2.2.2.1) 0)) ∧ (True ∧ ((cut ((List.getD s (Int.toNat l.2.2.1) 0) + (List.getD s (Int.toNat l.2.2.2.1) 0))) = y0 ∧ True))) else (if (l.1 == (4 : Int)) = true then (inI ((List.getD s (Int.toNat l.2.2.1) 0) - (List.getD s (Int.toNat l.2.2.2.1) 0)) ∧ (True ∧ ((cut ((List.getD s (Int.toNat l.2.2.1) 0) - (List.getD s (Int.toNat l.2.2.2.1) 0))) = y0 ∧ True))) else (if (l.1 == (5 : Int)) = true then (if (decide ((List.getD s (Int.toNat l.2.2.2.1) 0) < (List.getD s (Int.toNat l.2.2.1) 0))) = true then (True ∧ ((cut (List.getD s (Int.toNat l.2.2.2.1) 0)) = y0 ∧ True)) else (True ∧ ((cut (List.getD s (Int.toNat l.2.2.1) 0)) = y0 ∧ True))) else (if (l.1 == (6 : Int)) = true then (if (decide ((List.getD s (Int.toNat l.2.2.2.1) 0) > (List.getD s (Int.toNat l.2.2.1) 0))) = true then (True ∧ ((cut (List.getD s (Int.toNat l.2.2.2.1) 0)) = y0 ∧ True)) else (True ∧ ((cut (List.getD s (Int.toNat l.2.2.1) 0)) = y0 ∧ True))) else (True ∧ ((cut (List.getD s (Int.toNat l.2.2.1) 0)) = y0 ∧ True))))))))
theorem cValueR_law (h : ∀ (l : Lin) (s : (List Int)), cValueR.A.wf (l, s, ()) → (validLine l = true ∧ writes l = true ∧ validS s = true) → cValueR_0  l s (cut (wval l s))) : ConOK Go.Proofs.Try.prog 159 cValueR := by
  refine lawL (Γ := [(171, cCutR)]) (Θ := Th) (n := 48) [] ⟨cCutR_ok, trivial⟩ (by kernel_rfl) th_ok mix_ok Go.Proofs.Try.func159 (by kernel_rfl) ?_
  intro x hw hp Λ hC
  have h0 := h x.1 x.2.1 hw hp  
  exact Eq.mpr (by kernel_rfl) h0
theorem cValueR_ok : ConOK Go.Proofs.Try.prog 159 cValueR := by
  refine cValueR_law ?_
  intro l s hw hp
  unfold cValueR_0
  obtain ⟨p1, p2, p3⟩ := hp
  have hr := line_regs p1
  have l4 := validS_len p3
  have hw2 : 1 ≤ l.1 ∧ l.1 ≤ 6 := by unfold writes at p2; simpa using p2
  have gx := validS_get p3 l.2.2.1
  have gy := validS_get p3 l.2.2.2.1
  unfold wval
  by_cases e1 : l.1 = 1
  · rw [if_pos (by simpa using e1), if_pos e1]
    have := hr.2.2.2.2.1 e1
    exact ⟨by unfold cut; omega, trivial⟩
  rw [if_neg (by simpa using e1), if_neg e1]
  have ix := hr.1 (by omega)
  have iy : 0 ≤ l.2.2.2.1 ∧ l.2.2.2.1 ≤ 3 := by
    by_cases e2 : l.1 = 2
    · obtain ⟨op, t, x, y, ⟨⟩⟩ := l
      dsimp only at e2
      subst e2
      unfold validLine at p1
      simp at p1
      dsimp only
      omega
    · exact hr.2.1 (by omega)
  refine ⟨⟨ix.1, by omega⟩, ⟨iy.1, by omega⟩, ?_⟩
  unfold Rg at gx gy ⊢
  by_cases e3 : l.1 = 3
  · rw [if_pos (by simpa using e3), if_neg (by omega), if_pos e3]
    exact ⟨by unfold inI; omega, trivial, rfl, trivial⟩
  rw [if_neg (by simpa using e3)]
  by_cases e4 : l.1 = 4
  · rw [if_pos (by simpa using e4), if_neg (by omega), if_neg (by omega), if_pos e4]
    exact ⟨by unfold inI; omega, trivial, rfl, trivial⟩
  rw [if_neg (by simpa using e4)]
  by_cases e5 : l.1 = 5
  · rw [if_pos (by simpa using e5), if_neg (show ¬ l.1 = 2 by omega), if_neg (show ¬ l.1 = 3 by omega), if_neg (show ¬ l.1 = 4 by omega), if_pos e5]
    simp only [decide_eq_true_eq]
    split
    · exact ⟨trivial, by congr 1; omega, trivial⟩
    · exact ⟨trivial, by congr 1; omega, trivial⟩
  rw [if_neg (by simpa using e5)]
  by_cases e6 : l.1 = 6
  · rw [if_pos (by simpa using e6), if_neg (show ¬ l.1 = 2 by omega), if_neg (show ¬ l.1 = 3 by omega), if_neg (show ¬ l.1 = 4 by omega), if_neg (show ¬ l.1 = 5 by omega)]
    simp only [decide_eq_true_eq]
    split
    · exact ⟨trivial, by congr 1; omega, trivial⟩
    · exact ⟨trivial, by congr 1; omega, trivial⟩
  rw [if_neg (by simpa using e6), if_pos (by omega)]
  exact ⟨trivial, rfl, trivial⟩
abbrev cTraceR : Con := { A := (.cons (.sl tL) (.cons (.sl .int) (.cons (.sl .int) (.cons (.sl .int) .nil)))), R := (.cons (.osl tStp) (.cons (.sl .int) .nil)), pre := fun x => validP x.1 = 0 ∧ validS x.2.1 = true ∧ x.2.2.1 = [], F := fun x => (visits x.1 noFrc x.2.1, runS x.1 x.2.1, ()) }
def cTraceR_0 (Λ1 : Int → (List Step1) → (List Int) → Prop) (Λ2 : Int → (List Int) → (List Step1) → Int → Prop) (Λ3 : Int → Int → (List Int) → (List Step1) → Int → Int → Prop) (p : (List Lin)) (in_ : (List Int)) (lines : (List Int)) (values : (List Int)) (y0 : (List Step1)) (y1 : (List Int)) : Prop :=
  List.length ([] : List Int) + List.length in_ ≤ 4294967296 ∧ Λ1 (0 : Int) ([] : List Step1) (([] : List Int) ++ in_)
def cTraceR_1 (Λ1 : Int → (List Step1) → (List Int) → Prop) (Λ2 : Int → (List Int) → (List Step1) → Int → Prop) (Λ3 : Int → Int → (List Int) → (List Step1) → Int → Int → Prop) (p : (List Lin)) (in_ : (List Int)) (lines : (List Int)) (values : (List Int)) (y0 : (List Step1)) (y1 : (List Int))  (i_1 : Int) (out_1 : (List Step1)) (now_1 : (List Int)) : Prop :=
  if (decide (i_1 < (List.length p : Int))) = true then (List.length ([] : List Int) + List.length now_1 ≤ 4294967296 ∧ (List.length out_1 + List.length ([(i_1, (([] : List Int) ++ now_1), ())]) ≤ 4294967296 ∧ (idx i_1 (List.length p : Int) ∧ (inI (i_1 + (1 : Int)) ∧ (if ((List.getD p (Int.toNat i_1) tL.dflt).1 == (7 : Int)) = true then (idx ((List.getD p (Int.toNat i_1) tL.dflt).2.2.1) (List.length now_1 : Int) ∧ (idx ((List.getD p (Int.toNat i_1) tL.dflt).2.2.2.1) (List.length now_1 : Int) ∧ (True ∧ (if (bif true then (decide ((List.getD now_1 (Int.toNat ((List.getD p (Int.toNat i_1) tL.dflt).2.2.1)) 0) < (List.getD now_1 (Int.toNat ((List.getD p (Int.toNat i_1) tL.dflt).2.2.2.1)) 0))) else false) = true then (inI ((i_1 + (1 : Int)) + (List.getD p (Int.toNat i_1) tL.dflt).2.1) ∧ Λ2 i_1 now_1 out_1 ((i_1 + (1 : Int)) + (List.getD p (Int.toNat i_1) tL.dflt).2.1)) else Λ2 i_1 now_1 out_1 (i_1 + (1 : Int)))))) else (false = false ∧ Λ2 i_1 now_1 out_1 (i_1 + (1 : Int)))))))) else (now_1 = y1 ∧ out_1 = y0)
def cTraceR_2 (Λ1 : Int → (List Step1) → (List Int) → Prop) (Λ2 : Int → (List Int) → (List Step1) → Int → Prop) (Λ3 : Int → Int → (List Int) → (List Step1) → Int → Int → Prop) (p : (List Lin)) (in_ : (List Int)) (lines : (List Int)) (values : (List Int)) (y0 : (List Step1)) (y1 : (List Int)) (i_1 : Int) (now_1 : (List Int)) (out_1 : (List Step1)) (i_2 : Int) : Prop :=
  True ∧ (if (!(!((List.getD p (Int.toNat i_1) tL.dflt).1 == 0) && !((List.getD p (Int.toNat i_1) tL.dflt).1 == 7))) = true then Λ1 i_2 (out_1 ++ [(i_1, (([] : List Int) ++ now_1), ())]) now_1 else ((validLine (List.getD p (Int.toNat i_1) tL.dflt) = true ∧ writes (List.getD p (Int.toNat i_1) tL.dflt) = true ∧ validS now_1 = true) ∧ Λ3 i_1 i_2 now_1 out_1 (cut (wval (List.getD p (Int.toNat i_1) tL.dflt) now_1)) (0 : Int)))
def cTraceR_3 (Λ1 : Int → (List Step1) → (List Int) → Prop) (Λ2 : Int → (List Int) → (List Step1) → Int → Prop) (Λ3 : Int → Int → (List Int) → (List Step1) → Int → Int → Prop) (p : (List Lin)) (in_ : (List Int)) (lines : (List Int)) (values : (List Int)) (y0 : (List Step1)) (y1 : (List Int)) (i_1 : Int) (i_2 : Int) (now_1 : (List Int)) (out_1 : (List Step1)) (n_3 : Int) (k_3 : Int) : Prop :=
  if (decide (k_3 < (List.length lines : Int))) = true then (idx k_3 (List.length lines : Int) ∧ (inI (i_2 - (1 : Int)) ∧ (if ((List.getD lines (Int.toNat k_3) 0) == (i_2 - (1 : Int))) = true then (idx k_3 (List.length values : Int) ∧ (inI (k_3 + (1 : Int)) ∧ Λ3 i_1 i_2 now_1 out_1 (List.getD values (Int.toNat k_3) 0) (k_3 + (1 : Int)))) else (inI (k_3 + (1 : Int)) ∧ Λ3 i_1 i_2 now_1 out_1 n_3 (k_3 + (1 : Int)))))) else (idx ((List.getD p (Int.toNat i_1) tL.dflt).2.1) (List.length now_1 : Int) ∧ Λ1 i_2 (out_1 ++ [(i_1, (([] : List Int) ++ now_1), ())]) (List.set now_1 (Int.toNat ((List.getD p (Int.toNat i_1) tL.dflt).2.1)) n_3))
theorem cTraceR_law (h : ∀ (p : (List Lin)) (in_ : (List Int)) (lines : (List Int)) (values : (List Int)), cTraceR.A.wf (p, in_, lines, values, ()) → (validP p = 0 ∧ validS in_ = true ∧ lines = []) → ∀ (Λ1 : Int → (List Step1) → (List Int) → Prop) (Λ2 : Int → (List Int) → (List Step1) → Int → Prop) (Λ3 : Int → Int → (List Int) → (List Step1) → Int → Int → Prop), (∀ (i_1 : Int) (out_1 : (List Step1)) (now_1 : (List Int)), cTraceR_1 Λ1 Λ2 Λ3 p in_ lines values (visits p noFrc in_) (runS p in_) i_1 out_1 now_1 → Λ1 i_1 out_1 now_1) → (∀ (i_1 : Int) (now_1 : (List Int)) (out_1 : (List Step1)) (i_2 : Int), cTraceR_2 Λ1 Λ2 Λ3 p in_ lines values (visits p noFrc in_) (runS p in_) i_1 now_1 out_1 i_2 → Λ2 i_1 now_1 out_1 i_2) → (∀ (i_1 : Int) (i_2 : Int) (now_1 : (List Int)) (out_1 : (List Step1)) (n_3 : Int) (k_3 : Int), cTraceR_3 Λ1 Λ2 Λ3 p in_ lines values (visits p noFrc in_) (runS p in_) i_1 i_2 now_1 out_1 n_3 k_3 → Λ3 i_1 i_2 now_1 out_1 n_3 k_3) → cTraceR_0 Λ1 Λ2 Λ3 p in_ lines values (visits p noFrc in_) (runS p in_)) : ConOK Go.Proofs.Try.prog 148 cTraceR := by
  refine lawL (Γ := [(159, cValueR), (158, cWritesR)]) (Θ := Th) (n := 87) [([1, 1, 1, 0, 1, 0], ⟨[(0, false), (2, false), (3, false), (10, true), (11, true), (12, true)], [(10, true), (16, true)]⟩), ([1, 1, 1, 0, 1, 0, 0, 1, 0, 1, 1, 1, 2], ⟨[(0, false), (2, false), (3, false), (10, true), (11, true), (12, true), (13, true)], [(10, true), (13, true), (16, true)]⟩), ([1, 1, 1, 0, 1, 0, 0, 1, 0, 1, 1, 1, 1, 1, 1, 0, 1, 0], ⟨[(0, false), (2, false), (3, false), (10, true), (11, true), (12, true), (13, true), (14, false), (15, true)], [(10, true), (13, true), (16, true)]⟩)] ⟨cValueR_ok, cWritesR_ok, trivial⟩ (by kernel_rfl) th_ok mix_ok Go.Proofs.Try.func148 (by kernel_rfl) ?_
  intro x hw hp Λ hC
  have h0 := h x.1 x.2.1 x.2.2.1 x.2.2.2.1 hw hp (fun i_1 out_1 now_1 => Λ [1, 1, 1, 0, 1, 0] ([(0, .d false (.sl tL) x.1), (2, .d false (.sl .int) x.2.2.1), (3, .d false (.sl .int) x.2.2.2.1), (10, .own 10 0), (11, .own 16 0), (12, .d true .int i_1)], [(10, .sl true tStp out_1), (16, .sl true .int now_1)])) (fun i_1 now_1 out_1 i_2 => Λ [1, 1, 1, 0, 1, 0, 0, 1, 0, 1, 1, 1, 2] ([(0, .d false (.sl tL) x.1), (2, .d false (.sl .int) x.2.2.1), (3, .d false (.sl .int) x.2.2.2.1), (10, .own 10 0), (11, .own 16 0), (12, .d true .int i_2), (13, .ptr 13 0 [])], [(10, .sl true tStp (out_1 ++ [(i_1, (([] : List Int) ++ now_1), ())])), (13, .box true tL (List.getD x.1 (Int.toNat i_1) tL.dflt)), (16, .sl true .int now_1)])) (fun i_1 i_2 now_1 out_1 n_3 k_3 => Λ [1, 1, 1, 0, 1, 0, 0, 1, 0, 1, 1, 1, 1, 1, 1, 0, 1, 0] ([(0, .d false (.sl tL) x.1), (2, .d false (.sl .int) x.2.2.1), (3, .d false (.sl .int) x.2.2.2.1), (10, .own 10 0), (11, .own 16 0), (12, .d true .int i_2), (13, .ptr 13 0 []), (14, .d false .int n_3), (15, .d true .int k_3)], [(10, .sl true tStp (out_1 ++ [(i_1, (([] : List Int) ++ now_1), ())])), (13, .box true tL (List.getD x.1 (Int.toNat i_1) tL.dflt)), (16, .sl true .int now_1)])) (fun i_1 out_1 now_1 hb => hC [1, 1, 1, 0, 1, 0] ([(0, .d false (.sl tL) x.1), (2, .d false (.sl .int) x.2.2.1), (3, .d false (.sl .int) x.2.2.2.1), (10, .own 10 0), (11, .own 16 0), (12, .d true .int i_1)], [(10, .sl true tStp out_1), (16, .sl true .int now_1)]) (Eq.mpr (by kernel_rfl) hb)) (fun i_1 now_1 out_1 i_2 hb => hC [1, 1, 1, 0, 1, 0, 0, 1, 0, 1, 1, 1, 2] ([(0, .d false (.sl tL) x.1), (2, .d false (.sl .int) x.2.2.1), (3, .d false (.sl .int) x.2.2.2.1), (10, .own 10 0), (11, .own 16 0), (12, .d true .int i_2), (13, .ptr 13 0 [])], [(10, .sl true tStp (out_1 ++ [(i_1, (([] : List Int) ++ now_1), ())])), (13, .box true tL (List.getD x.1 (Int.toNat i_1) tL.dflt)), (16, .sl true .int now_1)]) (Eq.mpr (by kernel_rfl) hb)) (fun i_1 i_2 now_1 out_1 n_3 k_3 hb => hC [1, 1, 1, 0, 1, 0, 0, 1, 0, 1, 1, 1, 1, 1, 1, 0, 1, 0] ([(0, .d false (.sl tL) x.1), (2, .d false (.sl .int) x.2.2.1), (3, .d false (.sl .int) x.2.2.2.1), (10, .own 10 0), (11, .own 16 0), (12, .d true .int i_2), (13, .ptr 13 0 []), (14, .d false .int n_3), (15, .d true .int k_3)], [(10, .sl true tStp (out_1 ++ [(i_1, (([] : List Int) ++ now_1), ())])), (13, .box true tL (List.getD x.1 (Int.toNat i_1) tL.dflt)), (16, .sl true .int now_1)]) (Eq.mpr (by kernel_rfl) hb))
  exact Eq.mpr (by kernel_rfl) h0
theorem cTraceR_ok : ConOK Go.Proofs.Try.prog 148 cTraceR := by
  refine cTraceR_law ?_
  intro p in_ lines values hw hp Λ1 Λ2 Λ3 h1 h2 h3
  unfold cTraceR_0
  obtain ⟨p1, p2, p3⟩ := hp
  obtain ⟨h8, hall⟩ := validP_ok p1
  have l4 := validS_len p2
  have key : ∀ (f i : Nat) (s : List Int) (out : List Vst), validS s = true → p.length < i + f → out.length ≤ i → visits p noFrc in_ = out ++ (runF p noFrc f i s).1 → runS p in_ = (runF p noFrc f i s).2 → Λ1 (i : Int) out s := by
    intro f
    induction f with
    | zero =>
      intro i s out hs hf ho e1 e2
      apply h1; unfold cTraceR_1; rw [if_neg (by simp; omega)]
      exact ⟨e2.symm, by rw [e1]; simp [runF]⟩
    | succ f ih =>
      intro i s out hs hf ho e1 e2
      rw [runF] at e1 e2
      by_cases hi : i < p.length
      · rw [if_pos hi] at e1 e2
        have hl := validLine_at hall hi
        have hgt := stepTo_gt (List.getD p i tL.dflt) i s
        have nx := ih (stepTo (List.getD p i tL.dflt) i s) (stepS noFrc (List.getD p i tL.dflt) i s) (out ++ [((i : Int), s, ())]) (stepS_ok _ _ i hs) (by omega) (by rw [List.length_append]; simp only [List.length_cons, List.length_nil]; omega) (by rw [e1]; simp) e2
        have l4s := validS_len hs
        have J : ∀ j : Nat, j = stepTo (List.getD p i tL.dflt) i s → Λ2 (i : Int) s out (j : Int) := by
          intro j hj
          apply h2; unfold cTraceR_2; rw [Int.toNat_natCast, writes_eq hl]
          refine ⟨trivial, ?_⟩
          rw [List.nil_append]
          cases hw : writes (List.getD p i tL.dflt)
          · rw [if_pos (by rfl)]
            unfold stepS at nx
            rw [if_neg (by rw [hw]; simp), ← hj] at nx
            exact nx
          · rw [if_neg (by simp)]
            refine ⟨⟨hl, rfl, hs⟩, ?_⟩
            apply h3; unfold cTraceR_3
            rw [p3, if_neg (by simp), Int.toNat_natCast, List.nil_append]
            have hr := line_regs hl
            have it := hr.2.2.1 (by unfold writes at hw; simpa using hw)
            unfold stepS wnum noFrc at nx
            rw [if_pos hw, ← hj] at nx
            exact ⟨⟨it.1, by omega⟩, nx⟩
        apply h1; unfold cTraceR_1; rw [if_pos (by simpa using hi), Int.toNat_natCast]
        have hr := line_regs hl
        have hn : inI ((i : Int) + 1) := inI_succ hi (by omega)
        refine ⟨by simp only [List.length_nil]; omega, by simp only [List.length_cons, List.length_nil]; omega, idx_nat hi, hn, ?_⟩
        unfold stepTo at J
        by_cases h7 : (List.getD p i tL.dflt).1 = 7
        · rw [if_pos (by simpa using h7)]
          have ix := hr.1 (by omega)
          have iy := hr.2.1 (by omega)
          have it := hr.2.2.2.1 h7
          refine ⟨⟨ix.1, by omega⟩, ⟨iy.1, by omega⟩, trivial, ?_⟩
          by_cases hc : Rg s (List.getD p i tL.dflt).2.2.1 < Rg s (List.getD p i tL.dflt).2.2.2.1
          · rw [if_pos (by show decide _ = true; exact decide_eq_true hc)]
            refine ⟨by unfold inI; omega, ?_⟩
            have := J (i + 1 + (List.getD p i tL.dflt).2.1.toNat) (by rw [if_pos ⟨h7, hc⟩])
            rw [show ((i : Int) + 1 + (List.getD p i tL.dflt).2.1) = ((i + 1 + (List.getD p i tL.dflt).2.1.toNat : Nat) : Int) by omega]
            exact this
          · rw [if_neg (by show ¬ decide _ = true; rw [decide_eq_true_eq]; exact hc)]
            exact J (i + 1) (by rw [if_neg (by rintro ⟨_, h⟩; exact hc h)])
        · rw [if_neg (by simpa using h7)]
          exact ⟨rfl, J (i + 1) (by rw [if_neg (by rintro ⟨h, _⟩; exact h7 h)])⟩
      · rw [if_neg hi] at e1 e2
        apply h1; unfold cTraceR_1; rw [if_neg (by simpa using hi)]
        exact ⟨e2.symm, by rw [e1]; simp⟩
  refine ⟨by simp only [List.length_nil]; omega, ?_⟩
  rw [List.nil_append]
  exact key (p.length + 1) 0 in_ [] p2 (by omega) (Nat.zero_le _) rfl rfl
abbrev cRunR : Con := { A := (.cons (.sl tL) (.cons (.sl .int) .nil)), R := (.cons (.sl .int) (.cons .int .nil)), pre := fun x => True, F := fun x => ((if err1 x.1 x.2.1 = 0 then runS x.1 x.2.1 else []), err1 x.1 x.2.1, ()) }
def cRunR_0  (p : (List Lin)) (in_ : (List Int)) (y0 : (List Int)) (y1 : Int) : Prop :=
  True ∧ (if (((if validP p = 0 then argErr (validS in_) else validP p)) != (0 : Int)) = true then (([] : List Int) = y0 ∧ ((if validP p = 0 then argErr (validS in_) else validP p)) = y1 ∧ True) else ((validP p = 0 ∧ validS in_ = true ∧ ([] : List Int) = []) ∧ ((runS p in_) = y0 ∧ (0 : Int) = y1 ∧ True)))
theorem cRunR_law (h : ∀ (p : (List Lin)) (in_ : (List Int)), cRunR.A.wf (p, in_, ()) → cRunR_0  p in_ (if err1 p in_ = 0 then runS p in_ else []) (err1 p in_)) : ConOK Go.Proofs.Try.prog 140 cRunR := by
  refine lawL (Γ := [(147, cAskedR), (148, cTraceR)]) (Θ := Th) (n := 22) [] ⟨cAskedR_ok, cTraceR_ok, trivial⟩ (by kernel_rfl) th_ok mix_ok Go.Proofs.Try.func140 (by kernel_rfl) ?_
  intro x hw hp Λ hC
  have h0 := h x.1 x.2.1 hw  
  exact Eq.mpr (by kernel_rfl) h0
theorem cRunR_ok : ConOK Go.Proofs.Try.prog 140 cRunR := by
  refine cRunR_law ?_
  intro p in_ hw
  unfold cRunR_0
  refine ⟨trivial, ?_⟩
  show if (err1 p in_ != 0) = true then _ else _
  by_cases h : err1 p in_ = 0
  · rw [if_neg (by simp [h]), if_pos h, h]
    have := err1_ok h
    exact ⟨⟨this.1, this.2, rfl⟩, rfl, rfl, trivial⟩
  · rw [if_pos (by simpa using h), if_neg h]
    exact ⟨rfl, rfl, trivial⟩
end Go.Tk
