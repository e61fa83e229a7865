import Derived.Test.YthjkkjnnkkekeaaC7r
import Derived.Test.YthjkkjnnkkekeaaC2t
set_option linter.unusedSimpArgs false
set_option linter.unusedVariables false
set_option linter.unnecessarySimpa false
namespace Go.Tk
open Go Go.RowKit

def err7t (p : List Lin) (h : List (List Edt)) (l : List Tst) : Int := if err7 p h = 0 then validT l else err7 p h
theorem err7t_ok {p : List Lin} {h : List (List Edt)} {l : List Tst} (e : err7t p h l = 0) : err7 p h = 0 ∧ validT l = 0 := by
  unfold err7t at e
  split at e
  · exact ⟨by assumption, e⟩
  · rename_i g; exact absurd e g
def okAt (p : List Lin) (h : List (List Edt)) (t : Tst) (n : Nat) : Bool := errT [playH p (h.take n)] [t] == 0 && passT (playH p (h.take n)) t
def greenTo (p : List Lin) (h : List (List Edt)) (t : Tst) : Nat → List Int
  | 0 => []
  | n + 1 => greenTo p h t n ++ if okAt p h t n = true then [(n : Int)] else []
theorem greenTo_len (p : List Lin) (h : List (List Edt)) (t : Tst) : ∀ n, (greenTo p h t n).length ≤ n
  | 0 => Nat.le_refl _
  | n + 1 => by
    unfold greenTo
    rw [List.length_append]
    have := greenTo_len p h t n
    split <;> simp <;> omega
def oksTo (p : List Lin) (h : List (List Edt)) (t : Tst) : Nat → List Bool
  | 0 => []
  | n + 1 => oksTo p h t n ++ [okAt p h t n]
theorem oksTo_len (p : List Lin) (h : List (List Edt)) (t : Tst) : ∀ n, (oksTo p h t n).length = n
  | 0 => rfl
  | n + 1 => by unfold oksTo; rw [List.length_append, oksTo_len p h t n]; rfl
theorem oksTo_get (p : List Lin) (h : List (List Edt)) (t : Tst) : ∀ n i, i < n → (oksTo p h t n).getD i false = okAt p h t i
  | 0, i, hi => by omega
  | n + 1, i, hi => by
    unfold oksTo
    rw [List.getD_eq_getElem?_getD, List.getElem?_append]
    by_cases e : i < n
    · rw [if_pos (by rw [oksTo_len]; exact e), ← List.getD_eq_getElem?_getD, oksTo_get p h t n i e]
    · have : i = n := by omega
      subst this
      rw [if_neg (by rw [oksTo_len]; omega), oksTo_len]; simp

abbrev cTested7 : Con := { A := (.cons (.sl tL) (.cons (.sl (.sl tEd)) (.cons (.sl tTs) .nil))), R := (.cons .int .nil), pre := fun x => True, F := fun x => (err7t x.1 x.2.1 x.2.2.1, ()) }
def cTested7_0  (p : (List Lin)) (h : (List (List Edt))) (l : (List Tst)) (y0 : Int) : Prop :=
  True ∧ (if ((err7 p h) != (0 : Int)) = true then ((err7 p h) = y0 ∧ True) else (True ∧ ((validT l) = y0 ∧ True)))
theorem cTested7_law (h : ∀ (p : (List Lin)) (h : (List (List Edt))) (l : (List Tst)), cTested7.A.wf (p, h, l, ()) → cTested7_0  p h l (err7t p h l)) : ConOK Go.Proofs.Try.prog 85 cTested7 := by
  refine lawL (Γ := [(32, cVal7), (105, cValT)]) (Θ := Th) (n := 16) [] ⟨cVal7_ok, cValT_ok, trivial⟩ (by kernel_rfl) th_ok mix_ok Go.Proofs.Try.func85 (by kernel_rfl) ?_
  intro x hw hp Λ hC
  have h0 := h x.1 x.2.1 x.2.2.1 hw  
  exact Eq.mpr (by kernel_rfl) h0
theorem cTested7_ok : ConOK Go.Proofs.Try.prog 85 cTested7 := by
  refine cTested7_law ?_
  intro p h l hw
  unfold cTested7_0
  refine ⟨trivial, ?_⟩
  unfold err7t
  by_cases e : err7 p h = 0
  · rw [if_neg (by simp [e]), if_pos e]; exact ⟨trivial, rfl, trivial⟩
  · rw [if_pos (by simpa using e), if_neg e]; exact ⟨rfl, trivial⟩
abbrev cPass7 : Con := { A := (.cons (.sl tL) (.cons (.sl (.sl tEd)) (.cons .int (.cons tTs .nil)))), R := (.cons .bool .nil), pre := fun x => err7 x.1 x.2.1 = 0 ∧ 0 ≤ x.2.2.1 ∧ x.2.2.1 ≤ (x.2.1.length : Int), F := fun x => (okAt x.1 x.2.1 x.2.2.2.1 (Int.toNat x.2.2.1), ()) }
def cPass7_0  (p : (List Lin)) (h : (List (List Edt))) (n : Int) (t : Tst) (y0 : Bool) : Prop :=
  (0 ≤ n ∧ n ≤ (h.length : Int)) ∧ ((okH p.length (h.take (Int.toNat n)) ∧ p.length ≤ 8) ∧ (True ∧ (((errT [(playH p (h.take (Int.toNat n)))] [t] == 0 && passT (playH p (h.take (Int.toNat n))) t)) = y0 ∧ True)))
theorem cPass7_law (h : ∀ (p : (List Lin)) (h : (List (List Edt))) (n : Int) (t : Tst), cPass7.A.wf (p, h, n, t, ()) → (err7 p h = 0 ∧ 0 ≤ n ∧ n ≤ (h.length : Int)) → cPass7_0  p h n t (okAt p h t (Int.toNat n))) : ConOK Go.Proofs.Try.prog 86 cPass7 := by
  refine lawL (Γ := [(72, cFirst), (52, cPasses), (64, cPlay0)]) (Θ := Th) (n := 22) [] ⟨cFirst_ok, cPasses_ok, cPlay0_ok, trivial⟩ (by kernel_rfl) th_ok mix_ok Go.Proofs.Try.func86 (by kernel_rfl) ?_
  intro x hw hp Λ hC
  have h0 := h x.1 x.2.1 x.2.2.1 x.2.2.2.1 hw hp  
  exact Eq.mpr (by kernel_rfl) h0
theorem cPass7_ok : ConOK Go.Proofs.Try.prog 86 cPass7 := by
  refine cPass7_law ?_
  intro p h n t hw hp
  unfold cPass7_0
  obtain ⟨p1, p2, p3⟩ := hp
  obtain ⟨e1, e2, e3, e4⟩ := err7_ok p1
  exact ⟨⟨p2, p3⟩, ⟨fun x hx => e3 x (List.mem_of_mem_take hx), (validP_ok e1).1⟩, trivial, rfl, trivial⟩
abbrev cGreen7 : Con := { A := (.cons (.sl tL) (.cons (.sl (.sl tEd)) (.cons tTs .nil))), R := (.cons (.sl .int) (.cons .int .nil)), pre := fun x => True, F := fun x => ((if err7t x.1 x.2.1 [x.2.2.1] = 0 then greenTo x.1 x.2.1 x.2.2.1 (x.2.1.length + 1) else []), err7t x.1 x.2.1 [x.2.2.1], ()) }
def cGreen7_0 (Λ1 : Int → (List Int) → Prop) (p : (List Lin)) (h : (List (List Edt))) (t : Tst) (y0 : (List Int)) (y1 : Int) : Prop :=
  True ∧ (if ((err7t p h [t]) != (0 : Int)) = true then (([] : List Int) = y0 ∧ (err7t p h [t]) = y1 ∧ True) else (inI ((List.length h : Int) + (1 : Int)) ∧ Λ1 (0 : Int) ([] : List Int)))
def cGreen7_1 (Λ1 : Int → (List Int) → Prop) (p : (List Lin)) (h : (List (List Edt))) (t : Tst) (y0 : (List Int)) (y1 : Int)  (t22_1 : Int) (out_1 : (List Int)) : Prop :=
  if (decide (t22_1 < ((List.length h : Int) + (1 : Int)))) = true then ((err7 p h = 0 ∧ 0 ≤ t22_1 ∧ t22_1 ≤ (h.length : Int)) ∧ (if (okAt p h t (Int.toNat t22_1)) = true then (List.length out_1 + List.length [t22_1] ≤ 4294967296 ∧ (inI (t22_1 + (1 : Int)) ∧ Λ1 (t22_1 + (1 : Int)) (out_1 ++ [t22_1]))) else (inI (t22_1 + (1 : Int)) ∧ Λ1 (t22_1 + (1 : Int)) out_1))) else (out_1 = y0 ∧ (0 : Int) = y1 ∧ True)
theorem cGreen7_law (h : ∀ (p : (List Lin)) (h : (List (List Edt))) (t : Tst), cGreen7.A.wf (p, h, t, ()) → ∀ (Λ1 : Int → (List Int) → Prop), (∀ (t22_1 : Int) (out_1 : (List Int)), cGreen7_1 Λ1 p h t (if err7t p h [t] = 0 then greenTo p h t (h.length + 1) else []) (err7t p h [t]) t22_1 out_1 → Λ1 t22_1 out_1) → cGreen7_0 Λ1 p h t (if err7t p h [t] = 0 then greenTo p h t (h.length + 1) else []) (err7t p h [t])) : ConOK Go.Proofs.Try.prog 44 cGreen7 := by
  refine lawL (Γ := [(86, cPass7), (85, cTested7)]) (Θ := Th) (n := 36) [([1, 1, 1, 0, 1, 0], ⟨[(0, false), (1, false), (5, true), (9, true), (21, true), (22, true)], [(5, false), (9, true)]⟩)] ⟨cPass7_ok, cTested7_ok, trivial⟩ (by kernel_rfl) th_ok mix_ok Go.Proofs.Try.func44 (by kernel_rfl) ?_
  intro x hw hp Λ hC
  have h0 := h x.1 x.2.1 x.2.2.1 hw (fun t22_1 out_1 => Λ [1, 1, 1, 0, 1, 0] ([(0, .d false (.sl tL) x.1), (1, .d false (.sl (.sl tEd)) x.2.1), (5, .ptr 5 0 []), (9, .own 9 0), (21, .d true .int ((List.length x.2.1 : Int) + (1 : Int))), (22, .d true .int t22_1)], [(5, .box false tTs x.2.2.1), (9, .sl true .int out_1)])) (fun t22_1 out_1 hb => hC [1, 1, 1, 0, 1, 0] ([(0, .d false (.sl tL) x.1), (1, .d false (.sl (.sl tEd)) x.2.1), (5, .ptr 5 0 []), (9, .own 9 0), (21, .d true .int ((List.length x.2.1 : Int) + (1 : Int))), (22, .d true .int t22_1)], [(5, .box false tTs x.2.2.1), (9, .sl true .int out_1)]) (Eq.mpr (by kernel_rfl) hb))
  exact Eq.mpr (by kernel_rfl) h0
theorem cGreen7_ok : ConOK Go.Proofs.Try.prog 44 cGreen7 := by
  refine cGreen7_law ?_
  intro p h t hw Λ1 h1
  unfold cGreen7_0
  refine ⟨trivial, ?_⟩
  by_cases e : err7t p h [t] = 0
  · rw [if_neg (by simp [e])]
    obtain ⟨g1, g2⟩ := err7t_ok e
    obtain ⟨e1, e2, e3, e4⟩ := err7_ok g1
    refine ⟨by unfold inI; omega, ?_⟩
    refine upto (n := h.length + 1) (Q := fun i => Λ1 (i : Int) (greenTo p h t i)) ?_ ?_ 0 (Nat.zero_le _)
    · apply h1; unfold cGreen7_1; rw [if_neg (by rw [decide_eq_true_eq]; omega), if_pos e]
      exact ⟨rfl, e.symm, trivial⟩
    · intro i hi ih
      have hle := greenTo_len p h t i
      rw [show greenTo p h t (i + 1) = greenTo p h t i ++ if okAt p h t i = true then [(i : Int)] else [] from rfl] at ih
      apply h1; unfold cGreen7_1; rw [if_pos (by refine decide_eq_true ?_; omega), Int.toNat_natCast]
      refine ⟨⟨g1, by omega, by omega⟩, ?_⟩
      by_cases g : okAt p h t i = true
      · rw [if_pos g] at ih ⊢
        exact ⟨by simp only [List.length_cons, List.length_nil]; omega, inI_succ hi (by omega), ih⟩
      · rw [if_neg g, List.append_nil] at ih
        rw [if_neg g]
        exact ⟨inI_succ hi (by omega), ih⟩
  · rw [if_pos (by simpa using e), if_neg e]
    exact ⟨rfl, rfl, trivial⟩
abbrev cTested7R : Con := { A := (.cons (.sl tL) (.cons (.sl (.sl tEd)) (.cons (.sl tTs) .nil))), R := (.cons .int .nil), pre := fun x => True, F := fun x => (err7t x.1 x.2.1 x.2.2.1, ()) }
def cTested7R_0  (p : (List Lin)) (h : (List (List Edt))) (l : (List Tst)) (y0 : Int) : Prop :=
  True ∧ (if ((err7 p h) != (0 : Int)) = true then ((err7 p h) = y0 ∧ True) else (True ∧ ((validT l) = y0 ∧ True)))
theorem cTested7R_law (h : ∀ (p : (List Lin)) (h : (List (List Edt))) (l : (List Tst)), cTested7R.A.wf (p, h, l, ()) → cTested7R_0  p h l (err7t p h l)) : ConOK Go.Proofs.Try.prog 87 cTested7R := by
  refine lawL (Γ := [(33, cVal7R), (106, cValTR)]) (Θ := Th) (n := 16) [] ⟨cVal7R_ok, cValTR_ok, trivial⟩ (by kernel_rfl) th_ok mix_ok Go.Proofs.Try.func87 (by kernel_rfl) ?_
  intro x hw hp Λ hC
  have h0 := h x.1 x.2.1 x.2.2.1 hw  
  exact Eq.mpr (by kernel_rfl) h0
theorem cTested7R_ok : ConOK Go.Proofs.Try.prog 87 cTested7R := by
  refine cTested7R_law ?_
  intro p h l hw
  unfold cTested7R_0
  refine ⟨trivial, ?_⟩
  unfold err7t
  by_cases e : err7 p h = 0
  · rw [if_neg (by simp [e]), if_pos e]; exact ⟨trivial, rfl, trivial⟩
  · rw [if_pos (by simpa using e), if_neg e]; exact ⟨rfl, trivial⟩
abbrev cPass4R : Con := { A := (.cons (.sl tL) (.cons tTs .nil)), R := (.cons .bool .nil), pre := fun x => True, F := fun x => (errT [x.1] [x.2.1] == 0 && passT x.1 x.2.1, ()) }
def cPass4R_0  (p : (List Lin)) (t : Tst) (y0 : Bool) : Prop :=
  True ∧ (if ((errT [p] [t]) == (0 : Int)) = true then (True ∧ ((bif true then ((errT [p] [t] == 0 && passT p t)) else false) = y0 ∧ True)) else (false = false ∧ (false = y0 ∧ True)))
theorem cPass4R_law (h : ∀ (p : (List Lin)) (t : Tst), cPass4R.A.wf (p, t, ()) → cPass4R_0  p t (errT [p] [t] == 0 && passT p t)) : ConOK Go.Proofs.Try.prog 107 cPass4R := by
  refine lawL (Γ := [(122, cPassesR)]) (Θ := Th) (n := 18) [] ⟨cPassesR_ok, trivial⟩ (by kernel_rfl) th_ok mix_ok Go.Proofs.Try.func107 (by kernel_rfl) ?_
  intro x hw hp Λ hC
  have h0 := h x.1 x.2.1 hw  
  exact Eq.mpr (by kernel_rfl) h0
theorem cPass4R_ok : ConOK Go.Proofs.Try.prog 107 cPass4R := by
  refine cPass4R_law ?_
  intro p t hw
  unfold cPass4R_0
  refine ⟨trivial, ?_⟩
  by_cases e : errT [p] [t] = 0
  · rw [if_pos (by simpa using e)]
    exact ⟨trivial, rfl, trivial⟩
  · have e' : (errT [p] [t] == 0) = false := by simpa using e
    rw [if_neg (by rw [e']; simp), e']
    exact ⟨rfl, rfl, trivial⟩
abbrev cPass7R : Con := { A := (.cons (.sl tL) (.cons (.sl (.sl tEd)) (.cons tTs .nil))), R := (.cons (.osl .bool) .nil), pre := fun x => err7 x.1 x.2.1 = 0, F := fun x => (oksTo x.1 x.2.1 x.2.2.1 (x.2.1.length + 1), ()) }
def cPass7R_0 (Λ1 : Int → (List Bool) → Prop) (p : (List Lin)) (h : (List (List Edt))) (t : Tst) (y0 : (List Bool)) : Prop :=
  Λ1 (0 : Int) ([] : List Bool)
def cPass7R_1 (Λ1 : Int → (List Bool) → Prop) (p : (List Lin)) (h : (List (List Edt))) (t : Tst) (y0 : (List Bool))  (n_1 : Int) (out_1 : (List Bool)) : Prop :=
  if (decide (n_1 ≤ (List.length h : Int))) = true then (n_1 ≤ 100 ∧ ((∃ k', (upI (Int.toNat n_1)) = upI k' ∧ k' ≤ h.length ∧ okH p.length h ∧ p.length ≤ 8) ∧ (True ∧ (List.length out_1 + List.length ([(errT [(playH p (h.take (upI (Int.toNat n_1)).length))] [t] == 0 && passT (playH p (h.take (upI (Int.toNat n_1)).length)) t)]) ≤ 4294967296 ∧ (inI (n_1 + (1 : Int)) ∧ Λ1 (n_1 + (1 : Int)) (out_1 ++ [(errT [(playH p (h.take (upI (Int.toNat n_1)).length))] [t] == 0 && passT (playH p (h.take (upI (Int.toNat n_1)).length)) t)])))))) else out_1 = y0
theorem cPass7R_law (h : ∀ (p : (List Lin)) (h : (List (List Edt))) (t : Tst), cPass7R.A.wf (p, h, t, ()) → (err7 p h = 0) → ∀ (Λ1 : Int → (List Bool) → Prop), (∀ (n_1 : Int) (out_1 : (List Bool)), cPass7R_1 Λ1 p h t (oksTo p h t (h.length + 1)) n_1 out_1 → Λ1 n_1 out_1) → cPass7R_0 Λ1 p h t (oksTo p h t (h.length + 1))) : ConOK Go.Proofs.Try.prog 88 cPass7R := by
  refine lawL (Γ := [(70, cFirstR), (107, cPass4R), (66, cPlayR0)]) (Θ := Th) (n := 26) [([1, 1, 0, 1, 0], ⟨[(0, false), (1, false), (5, true), (7, true), (8, true)], [(5, false), (7, true)]⟩)] ⟨cFirstR_ok, cPass4R_ok, cPlayR0_ok, trivial⟩ (by kernel_rfl) th_ok mix_ok Go.Proofs.Try.func88 (by kernel_rfl) ?_
  intro x hw hp Λ hC
  have h0 := h x.1 x.2.1 x.2.2.1 hw hp (fun n_1 out_1 => Λ [1, 1, 0, 1, 0] ([(0, .d false (.sl tL) x.1), (1, .d false (.sl (.sl tEd)) x.2.1), (5, .ptr 5 0 []), (7, .own 7 0), (8, .d true .int n_1)], [(5, .box false tTs x.2.2.1), (7, .sl true .bool out_1)])) (fun n_1 out_1 hb => hC [1, 1, 0, 1, 0] ([(0, .d false (.sl tL) x.1), (1, .d false (.sl (.sl tEd)) x.2.1), (5, .ptr 5 0 []), (7, .own 7 0), (8, .d true .int n_1)], [(5, .box false tTs x.2.2.1), (7, .sl true .bool out_1)]) (Eq.mpr (by kernel_rfl) hb))
  exact Eq.mpr (by kernel_rfl) h0
theorem cPass7R_ok : ConOK Go.Proofs.Try.prog 88 cPass7R := by
  refine cPass7R_law ?_
  intro p h t hw hp Λ1 h1
  unfold cPass7R_0
  obtain ⟨e1, e2, e3, e4⟩ := err7_ok hp
  refine upto (n := h.length + 1) (Q := fun i => Λ1 (i : Int) (oksTo p h t i)) ?_ ?_ 0 (Nat.zero_le _)
  · apply h1; unfold cPass7R_1; rw [if_neg (by rw [decide_eq_true_eq]; omega)]
  · intro i hi ih
    apply h1; unfold cPass7R_1; rw [if_pos (by refine decide_eq_true ?_; omega), Int.toNat_natCast, upI_len]
    exact ⟨by omega, ⟨i, rfl, by omega, e3, (validP_ok e1).1⟩, trivial, by rw [oksTo_len]; simp only [List.length_cons, List.length_nil]; omega, inI_succ hi (by omega), ih⟩
abbrev cGreen7R : Con := { A := (.cons (.sl tL) (.cons (.sl (.sl tEd)) (.cons tTs .nil))), R := (.cons (.sl .int) (.cons .int .nil)), pre := fun x => True, F := fun x => ((if err7t x.1 x.2.1 [x.2.2.1] = 0 then greenTo x.1 x.2.1 x.2.2.1 (x.2.1.length + 1) else []), err7t x.1 x.2.1 [x.2.2.1], ()) }
def cGreen7R_0 (Λ1 : Int → (List Int) → Prop) (p : (List Lin)) (h : (List (List Edt))) (t : Tst) (y0 : (List Int)) (y1 : Int) : Prop :=
  True ∧ (if ((err7t p h [t]) != (0 : Int)) = true then (([] : List Int) = y0 ∧ (err7t p h [t]) = y1 ∧ True) else (err7 p h = 0 ∧ Λ1 (0 : Int) ([] : List Int)))
def cGreen7R_1 (Λ1 : Int → (List Int) → Prop) (p : (List Lin)) (h : (List (List Edt))) (t : Tst) (y0 : (List Int)) (y1 : Int)  (n_1 : Int) (out_1 : (List Int)) : Prop :=
  if (decide (n_1 < (List.length (oksTo p h t (h.length + 1)) : Int))) = true then (idx n_1 (List.length (oksTo p h t (h.length + 1)) : Int) ∧ (if (List.getD (oksTo p h t (h.length + 1)) (Int.toNat n_1) false) = true then (List.length out_1 + List.length [n_1] ≤ 4294967296 ∧ (inI (n_1 + (1 : Int)) ∧ Λ1 (n_1 + (1 : Int)) (out_1 ++ [n_1]))) else (inI (n_1 + (1 : Int)) ∧ Λ1 (n_1 + (1 : Int)) out_1))) else (out_1 = y0 ∧ (0 : Int) = y1 ∧ True)
theorem cGreen7R_law (h : ∀ (p : (List Lin)) (h : (List (List Edt))) (t : Tst), cGreen7R.A.wf (p, h, t, ()) → ∀ (Λ1 : Int → (List Int) → Prop), (∀ (n_1 : Int) (out_1 : (List Int)), cGreen7R_1 Λ1 p h t (if err7t p h [t] = 0 then greenTo p h t (h.length + 1) else []) (err7t p h [t]) n_1 out_1 → Λ1 n_1 out_1) → cGreen7R_0 Λ1 p h t (if err7t p h [t] = 0 then greenTo p h t (h.length + 1) else []) (err7t p h [t])) : ConOK Go.Proofs.Try.prog 45 cGreen7R := by
  refine lawL (Γ := [(88, cPass7R), (87, cTested7R)]) (Θ := Th) (n := 39) [([1, 1, 1, 1, 1, 0, 1, 0], ⟨[(9, true), (10, true), (11, true)], [(10, true), (23, true)]⟩)] ⟨cPass7R_ok, cTested7R_ok, trivial⟩ (by kernel_rfl) th_ok mix_ok Go.Proofs.Try.func45 (by kernel_rfl) ?_
  intro x hw hp Λ hC
  have h0 := h x.1 x.2.1 x.2.2.1 hw (fun n_1 out_1 => Λ [1, 1, 1, 1, 1, 0, 1, 0] ([(9, .own 23 0), (10, .own 10 0), (11, .d true .int n_1)], [(10, .sl true .int out_1), (23, .sl true .bool (oksTo x.1 x.2.1 x.2.2.1 (x.2.1.length + 1)))])) (fun n_1 out_1 hb => hC [1, 1, 1, 1, 1, 0, 1, 0] ([(9, .own 23 0), (10, .own 10 0), (11, .d true .int n_1)], [(10, .sl true .int out_1), (23, .sl true .bool (oksTo x.1 x.2.1 x.2.2.1 (x.2.1.length + 1)))]) (Eq.mpr (by kernel_rfl) hb))
  exact Eq.mpr (by kernel_rfl) h0
theorem cGreen7R_ok : ConOK Go.Proofs.Try.prog 45 cGreen7R := by
  refine cGreen7R_law ?_
  intro p h t hw Λ1 h1
  unfold cGreen7R_0
  refine ⟨trivial, ?_⟩
  by_cases e : err7t p h [t] = 0
  · rw [if_neg (by simp [e])]
    obtain ⟨g1, g2⟩ := err7t_ok e
    obtain ⟨e1, e2, e3, e4⟩ := err7_ok g1
    refine ⟨g1, ?_⟩
    refine upto (n := h.length + 1) (Q := fun i => Λ1 (i : Int) (greenTo p h t i)) ?_ ?_ 0 (Nat.zero_le _)
    · apply h1; unfold cGreen7R_1; rw [oksTo_len, if_neg (by simp), if_pos e]
      exact ⟨rfl, e.symm, trivial⟩
    · intro i hi ih
      have hle := greenTo_len p h t i
      rw [show greenTo p h t (i + 1) = greenTo p h t i ++ if okAt p h t i = true then [(i : Int)] else [] from rfl] at ih
      apply h1; unfold cGreen7R_1; rw [oksTo_len, if_pos (by refine decide_eq_true ?_; omega), Int.toNat_natCast, oksTo_get p h t _ i hi]
      refine ⟨idx_nat hi, ?_⟩
      by_cases g : okAt p h t i = true
      · rw [if_pos g] at ih ⊢
        exact ⟨by simp only [List.length_cons, List.length_nil]; omega, inI_succ hi (by omega), ih⟩
      · rw [if_neg g, List.append_nil] at ih
        rw [if_neg g]
        exact ⟨inI_succ hi (by omega), ih⟩
  · rw [if_pos (by simpa using e), if_neg e]
    exact ⟨rfl, rfl, trivial⟩
abbrev cStoryGreens : Con := { A := (.cons (.sl tL) (.cons (.sl (.sl tEd)) (.cons tTs .nil))), R := (.cons .bool .nil), pre := fun x => True, F := fun x => (true, ()) }
def cStoryGreens_0  (p : (List Lin)) (h : (List (List Edt))) (t : Tst) (y0 : Bool) : Prop :=
  True ∧ (if (decide (∃ x' ∈ h, 50 < x'.length) || decide (100 < p.length) || decide (50 < h.length)) = true then (true = true ∧ (True ∧ (true = y0 ∧ True))) else (True ∧ (if (bif false then true else (decide ((List.length t.1 : Int) > (50 : Int)))) = true then (True ∧ (true = y0 ∧ True)) else (True ∧ (True ∧ (((if err7t p h [t] = 0 then greenTo p h t (h.length + 1) else [])).length ≤ 1000000 ∧ (if (decide (((if err7t p h [t] = 0 then greenTo p h t (h.length + 1) else [])) = ((if err7t p h [t] = 0 then greenTo p h t (h.length + 1) else [])))) = true then (True ∧ (if (bif true then ((err7t p h [t]) == (err7t p h [t])) else false) = true then (True ∧ (True ∧ ((bif true then true else false) = y0 ∧ True))) else (false = false ∧ (false = y0 ∧ True)))) else (false = false ∧ (false = false ∧ (false = y0 ∧ True))))))))))
theorem cStoryGreens_law (h : ∀ (p : (List Lin)) (h : (List (List Edt))) (t : Tst), cStoryGreens.A.wf (p, h, t, ()) → cStoryGreens_0  p h t true) : ConOK Go.Proofs.Try.prog 11 cStoryGreens := by
  refine lawL (Γ := [(44, cGreen7), (45, cGreen7R), (15, cLong7), (23, cSameInts4), (16, cSane7)]) (Θ := Th) (n := 46) [] ⟨cGreen7_ok, cGreen7R_ok, cLong7_ok, cSameInts4_ok, cSane7_ok, trivial⟩ (by kernel_rfl) th_ok mix_ok Go.Proofs.Try.func11 (by kernel_rfl) ?_
  intro x hw hp Λ hC
  have h0 := h x.1 x.2.1 x.2.2.1 hw  
  exact Eq.mpr (by kernel_rfl) h0
theorem cStoryGreens_ok : ConOK Go.Proofs.Try.prog 11 cStoryGreens := by
  refine cStoryGreens_law ?_
  intro p h t hw
  unfold cStoryGreens_0
  cases c : (decide (∃ x' ∈ h, 50 < x'.length) || decide (100 < p.length) || decide (50 < h.length))
  · have hhl : h.length ≤ 50 := by
      simp only [Bool.or_eq_false_iff, decide_eq_false_iff_not] at c; omega
    refine ⟨trivial, ?_⟩
    rw [if_neg (by simp)]
    refine ⟨trivial, ?_⟩
    by_cases c2 : (t.1.length : Int) > 50
    · rw [if_pos (by refine decide_eq_true ?_; exact c2)]
      exact ⟨trivial, rfl, trivial⟩
    · rw [if_neg (by show ¬ decide _ = true; rw [decide_eq_true_eq]; exact c2)]
      have hl : (if err7t p h [t] = 0 then greenTo p h t (h.length + 1) else []).length ≤ 1000000 := by
        split
        · have := greenTo_len p h t (h.length + 1); omega
        · simp
      refine ⟨trivial, trivial, hl, ?_⟩
      rw [if_pos (by simp)]
      refine ⟨trivial, ?_⟩
      rw [if_pos (by simp)]
      exact ⟨trivial, trivial, rfl, trivial⟩
  · refine ⟨trivial, ?_⟩
    rw [if_pos rfl]
    exact ⟨rfl, trivial, rfl, trivial⟩
end Go.Tk
