import Derived.Test.YthjkkjnnkkekeaaC7s
set_option linter.unusedSimpArgs false
set_option linter.unusedVariables false
set_option linter.unnecessarySimpa false
namespace Go.Tk
open Go Go.RowKit

def upI : Nat → List Int
  | 0 => []
  | n + 1 => upI n ++ [(n : Int)]
theorem upI_len : ∀ n, (upI n).length = n
  | 0 => rfl
  | n + 1 => by unfold upI; rw [List.length_append, upI_len n]; rfl
theorem upI_get : ∀ n i, i < n → (upI n).getD i 0 = (i : Int)
  | 0, i, h => by omega
  | n + 1, i, h => by
    unfold upI
    rw [List.getD_eq_getElem?_getD, List.getElem?_append]
    by_cases e : i < n
    · rw [if_pos (by rw [upI_len]; exact e), ← List.getD_eq_getElem?_getD, upI_get n i e]
    · have : i = n := by omega
      subst this
      rw [if_neg (by rw [upI_len]; omega), upI_len]; simp

abbrev cVal4R : Con := { A := (.cons (.sl tEd) .nil), R := (.cons .int .nil), pre := fun x => True, F := fun x => (validX x.1, ()) }
def cVal4R_0 (Λ1 : Int → Prop) (x : (List Edt)) (y0 : Int) : Prop :=
  if (decide ((List.length x : Int) > (4 : Int))) = true then ((3 : Int) = y0 ∧ True) else Λ1 (0 : Int)
def cVal4R_1 (Λ1 : Int → Prop) (x : (List Edt)) (y0 : Int)  (i_1 : Int) : Prop :=
  if (decide (i_1 < (List.length x : Int))) = true then (idx i_1 (List.length x : Int) ∧ (if (decide ((List.getD x (Int.toNat i_1) tEd.dflt).1 < (0 : Int))) = true then (true = true ∧ (true = true ∧ (true = true ∧ ((1 : Int) = y0 ∧ True)))) else (idx i_1 (List.length x : Int) ∧ (True ∧ (if (bif false then true else (decide ((List.getD x (Int.toNat i_1) tEd.dflt).1 ≥ (8 : Int)))) = true then (true = true ∧ (true = true ∧ ((1 : Int) = y0 ∧ True))) else (if (decide (i_1 > (0 : Int))) = true then (inI (i_1 - (1 : Int)) ∧ (idx (i_1 - (1 : Int)) (List.length x : Int) ∧ (idx i_1 (List.length x : Int) ∧ (True ∧ (True ∧ (if (bif false then true else (bif true then (decide ((List.getD x (Int.toNat (i_1 - (1 : Int))) tEd.dflt).1 ≥ (List.getD x (Int.toNat i_1) tEd.dflt).1)) else false)) = true then (true = true ∧ ((1 : Int) = y0 ∧ True)) else (idx i_1 (List.length x : Int) ∧ (True ∧ (True ∧ (if (bif false then true else ((argErr (validLine ((List.getD x (Int.toNat i_1) tEd.dflt).2.1))) != (0 : Int))) = true then ((1 : Int) = y0 ∧ True) else (inI (i_1 + (1 : Int)) ∧ Λ1 (i_1 + (1 : Int))))))))))))) else (false = false ∧ (True ∧ (if (bif false then true else false) = true then (true = true ∧ ((1 : Int) = y0 ∧ True)) else (idx i_1 (List.length x : Int) ∧ (True ∧ (True ∧ (if (bif false then true else ((argErr (validLine ((List.getD x (Int.toNat i_1) tEd.dflt).2.1))) != (0 : Int))) = true then ((1 : Int) = y0 ∧ True) else (inI (i_1 + (1 : Int)) ∧ Λ1 (i_1 + (1 : Int)))))))))))))))) else ((0 : Int) = y0 ∧ True)
theorem cVal4R_law (h : ∀ (x : (List Edt)), cVal4R.A.wf (x, ()) → ∀ (Λ1 : Int → Prop), (∀ (i_1 : Int), cVal4R_1 Λ1 x (validX x) i_1 → Λ1 i_1) → cVal4R_0 Λ1 x (validX x)) : ConOK Go.Proofs.Try.prog 78 cVal4R := by
  refine lawL (Γ := [(100, cValLineR)]) (Θ := Th) (n := 54) [([1, 1, 0, 1, 0], ⟨[(0, false), (3, true)], []⟩)] ⟨cValLineR_ok, trivial⟩ (by kernel_rfl) th_ok mix_ok Go.Proofs.Try.func78 (by kernel_rfl) ?_
  intro x hw hp Λ hC
  have h0 := h x.1 hw (fun i_1 => Λ [1, 1, 0, 1, 0] ([(0, .d false (.sl tEd) x.1), (3, .d true .int i_1)], [])) (fun i_1 hb => hC [1, 1, 0, 1, 0] ([(0, .d false (.sl tEd) x.1), (3, .d true .int i_1)], []) (Eq.mpr (by kernel_rfl) hb))
  exact Eq.mpr (by kernel_rfl) h0
theorem cVal4R_ok : ConOK Go.Proofs.Try.prog 78 cVal4R := by
  refine cVal4R_law ?_
  intro x hw Λ1 h1
  unfold cVal4R_0
  by_cases h4 : x.length > 4
  · rw [if_pos (by simp; omega)]
    unfold validX
    rw [if_pos h4]; exact ⟨rfl, trivial⟩
  · rw [if_neg (by simp; omega)]
    have hv : validX x = argErr (okTo x x.length) := by unfold validX; rw [if_neg h4]
    have bad : ∀ i, i < x.length → edOK x i = false → 1 = validX x := fun i hi e => by rw [hv, okTo_false e _ hi]; rfl
    refine upto (n := x.length) (Q := fun i => okTo x i = true → Λ1 i) ?_ ?_ 0 (Nat.zero_le _) rfl
    · intro ha
      apply h1; unfold cVal4R_1; rw [if_neg (by simp), hv, ha]
      exact ⟨rfl, trivial⟩
    · intro i hi ih ha
      apply h1; unfold cVal4R_1; rw [if_pos (by simpa using hi), Int.toNat_natCast]
      refine ⟨idx_nat hi, ?_⟩
      have hb := bad i hi
      have ok : edOK x i = true → okTo x (i + 1) = true := fun e => by unfold okTo; rw [ha, e]; rfl
      unfold edOK at hb ok
      by_cases a1 : (x.getD i tEd.dflt).1 < 0
      · rw [if_pos (by simpa using a1)]
        exact ⟨rfl, rfl, rfl, hb (by rw [decide_eq_true a1]; rfl), trivial⟩
      rw [if_neg (by simpa using a1)]
      refine ⟨idx_nat hi, trivial, ?_⟩
      by_cases a2 : (x.getD i tEd.dflt).1 ≥ 8
      · rw [if_pos (by simpa using a2)]
        exact ⟨rfl, rfl, hb (by rw [decide_eq_true a2, Bool.or_true]; rfl), trivial⟩
      rw [if_neg (by simpa using a2)]
      have fin : (decide (i > 0) && decide ((x.getD (i - 1) tEd.dflt).1 ≥ (x.getD i tEd.dflt).1)) = false → (if (bif false then true else ((argErr (validLine ((x.getD i tEd.dflt).2.1))) != (0 : Int))) = true then ((1 : Int) = validX x ∧ True) else (inI ((i : Int) + (1 : Int)) ∧ Λ1 ((i : Int) + (1 : Int)))) := by
        intro e3
        cases a4 : validLine (x.getD i tEd.dflt).2.1
        · rw [if_pos (by rfl)]
          exact ⟨hb (by rw [a4]; simp), trivial⟩
        · rw [if_neg (by simp [argErr])]
          refine ⟨inI_succ hi (by omega), ih (ok ?_)⟩
          rw [a4, e3, decide_eq_false a1, decide_eq_false a2]; rfl
      by_cases a3 : i > 0
      · rw [if_pos (by simp; omega)]
        have e1 : ((i : Int) - 1).toNat = i - 1 := by omega
        rw [e1]
        refine ⟨by unfold inI; omega, ⟨by omega, by omega⟩, idx_nat hi, trivial, trivial, ?_⟩
        by_cases a5 : (x.getD (i - 1) tEd.dflt).1 ≥ (x.getD i tEd.dflt).1
        · rw [if_pos (by simpa using a5)]
          refine ⟨rfl, hb ?_, trivial⟩
          rw [decide_eq_true a3, decide_eq_true a5]; simp
        · rw [if_neg (by simpa using a5)]
          exact ⟨idx_nat hi, trivial, trivial, fin (by rw [decide_eq_false a5, Bool.and_false])⟩
      · rw [if_neg (by simp; omega)]
        refine ⟨rfl, trivial, ?_⟩
        rw [if_neg (by simp)]
        exact ⟨idx_nat hi, trivial, trivial, fin (by rw [decide_eq_false a3, Bool.false_and])⟩
abbrev cVal7R : Con := { A := (.cons (.sl tL) (.cons (.sl (.sl tEd)) .nil)), R := (.cons .int .nil), pre := fun x => True, F := fun x => (err7 x.1 x.2.1, ()) }
def cVal7R_0 (Λ1 : Int → Prop) (Λ2 : Int → Int → Prop) (p : (List Lin)) (h : (List (List Edt))) (y0 : Int) : Prop :=
  True ∧ (if ((validP p) != (0 : Int)) = true then ((validP p) = y0 ∧ True) else (if (decide ((List.length h : Int) > (8 : Int))) = true then ((3 : Int) = y0 ∧ True) else Λ1 (0 : Int)))
def cVal7R_1 (Λ1 : Int → Prop) (Λ2 : Int → Int → Prop) (p : (List Lin)) (h : (List (List Edt))) (y0 : Int)  (i_1 : Int) : Prop :=
  if (decide (i_1 < (List.length h : Int))) = true then (idx i_1 (List.length h : Int) ∧ (True ∧ (if ((validX (List.getD h (Int.toNat i_1) ([] : List Edt))) != (0 : Int)) = true then ((validX (List.getD h (Int.toNat i_1) ([] : List Edt))) = y0 ∧ True) else Λ2 i_1 (0 : Int)))) else ((0 : Int) = y0 ∧ True)
def cVal7R_2 (Λ1 : Int → Prop) (Λ2 : Int → Int → Prop) (p : (List Lin)) (h : (List (List Edt))) (y0 : Int) (i_1 : Int) (k_2 : Int) : Prop :=
  idx i_1 (List.length h : Int) ∧ (if (decide (k_2 < (List.length (List.getD h (Int.toNat i_1) ([] : List Edt)) : Int))) = true then (idx i_1 (List.length h : Int) ∧ (idx k_2 (List.length (List.getD h (Int.toNat i_1) ([] : List Edt)) : Int) ∧ (if (decide ((List.getD (List.getD h (Int.toNat i_1) ([] : List Edt)) (Int.toNat k_2) tEd.dflt).1 ≥ (List.length p : Int))) = true then ((4 : Int) = y0 ∧ True) else (inI (k_2 + (1 : Int)) ∧ Λ2 i_1 (k_2 + (1 : Int)))))) else (inI (i_1 + (1 : Int)) ∧ Λ1 (i_1 + (1 : Int))))
theorem cVal7R_law (h : ∀ (p : (List Lin)) (h : (List (List Edt))), cVal7R.A.wf (p, h, ()) → ∀ (Λ1 : Int → Prop) (Λ2 : Int → Int → Prop), (∀ (i_1 : Int), cVal7R_1 Λ1 Λ2 p h (err7 p h) i_1 → Λ1 i_1) → (∀ (i_1 : Int) (k_2 : Int), cVal7R_2 Λ1 Λ2 p h (err7 p h) i_1 k_2 → Λ2 i_1 k_2) → cVal7R_0 Λ1 Λ2 p h (err7 p h)) : ConOK Go.Proofs.Try.prog 33 cVal7R := by
  refine lawL (Γ := [(78, cVal4R), (77, cValPR)]) (Θ := Th) (n := 50) [([1, 1, 1, 1, 0, 1, 0], ⟨[(0, false), (1, false), (6, true)], []⟩), ([1, 1, 1, 1, 0, 1, 0, 0, 1, 0, 0, 1, 1, 1, 0], ⟨[(0, false), (1, false), (6, true), (7, true)], []⟩)] ⟨cVal4R_ok, cValPR_ok, trivial⟩ (by kernel_rfl) th_ok mix_ok Go.Proofs.Try.func33 (by kernel_rfl) ?_
  intro x hw hp Λ hC
  have h0 := h x.1 x.2.1 hw (fun i_1 => Λ [1, 1, 1, 1, 0, 1, 0] ([(0, .d false (.sl tL) x.1), (1, .d false (.sl (.sl tEd)) x.2.1), (6, .d true .int i_1)], [])) (fun i_1 k_2 => Λ [1, 1, 1, 1, 0, 1, 0, 0, 1, 0, 0, 1, 1, 1, 0] ([(0, .d false (.sl tL) x.1), (1, .d false (.sl (.sl tEd)) x.2.1), (6, .d true .int i_1), (7, .d true .int k_2)], [])) (fun i_1 hb => hC [1, 1, 1, 1, 0, 1, 0] ([(0, .d false (.sl tL) x.1), (1, .d false (.sl (.sl tEd)) x.2.1), (6, .d true .int i_1)], []) (Eq.mpr (by kernel_rfl) hb)) (fun i_1 k_2 hb => hC [1, 1, 1, 1, 0, 1, 0, 0, 1, 0, 0, 1, 1, 1, 0] ([(0, .d false (.sl tL) x.1), (1, .d false (.sl (.sl tEd)) x.2.1), (6, .d true .int i_1), (7, .d true .int k_2)], []) (Eq.mpr (by kernel_rfl) hb))
  exact Eq.mpr (by kernel_rfl) h0
theorem cVal7R_ok : ConOK Go.Proofs.Try.prog 33 cVal7R := by
  refine cVal7R_law ?_
  intro p h hw Λ1 Λ2 h1 h2
  unfold cVal7R_0
  refine ⟨trivial, ?_⟩
  by_cases hv : validP p = 0
  · rw [if_neg (by simp [hv])]
    by_cases h8 : h.length > 8
    · rw [if_pos (by simp; omega)]
      unfold err7
      rw [if_pos hv, if_pos h8]; exact ⟨rfl, trivial⟩
    · rw [if_neg (by simp; omega)]
      have he : err7 p h = errH p.length h := by unfold err7; rw [if_pos hv, if_neg h8]
      have key : ∀ n i, i + n = h.length → errH p.length h = errH p.length (h.drop i) → Λ1 (i : Int) := by
        intro n
        induction n with
        | zero =>
          intro i hi e
          apply h1; unfold cVal7R_1
          rw [if_neg (by simp; omega)]
          rw [List.drop_eq_nil_of_le (by omega)] at e
          exact ⟨by rw [he, e]; rfl, trivial⟩
        | succ n ih =>
          intro i hi e
          have hl : i < h.length := by omega
          apply h1; unfold cVal7R_1
          rw [if_pos (by simpa using hl), Int.toNat_natCast]
          have hd : h.drop i = h.getD i [] :: h.drop (i + 1) := by
            rw [List.drop_eq_getElem_cons hl]; simp [List.getD_eq_getElem?_getD, hl]
          rw [hd, errH] at e
          refine ⟨idx_nat hl, trivial, ?_⟩
          by_cases g : validX (h.getD i []) = 0
          · rw [if_pos g] at e
            rw [if_neg (by simpa using g)]
            have hx : List.getD h i [] = List.getD h i [] := rfl
            have hlx : (List.getD h i []).length ≤ 4 := by
              have := (validX_ok g).1; exact this
            refine upto (n := (List.getD h i []).length) (Q := fun j => ((List.getD h i []).take j).any (fun e => decide (e.1 ≥ (p.length : Int))) = false → Λ2 (i : Int) (j : Int)) ?_ ?_ 0 (Nat.zero_le _) rfl
            · intro ha
              rw [List.take_length] at ha
              have hf : far p.length (List.getD h i []) = false := ha
              rw [hf, if_neg (by simp)] at e
              apply h2; unfold cVal7R_2
              refine ⟨idx_nat hl, ?_⟩
              rw [Int.toNat_natCast, if_neg (by simp)]
              exact ⟨inI_succ hl (by omega), ih (i + 1) (by omega) e⟩
            · intro j hj ihj ha
              apply h2; unfold cVal7R_2
              refine ⟨idx_nat hl, ?_⟩
              rw [Int.toNat_natCast, Int.toNat_natCast, if_pos (by simpa using hj)]
              refine ⟨idx_nat hl, idx_nat hj, ?_⟩
              cases hv2 : decide ((List.getD (List.getD h i []) j tEd.dflt).1 ≥ (p.length : Int))
              · rw [if_neg (by simp)]
                exact ⟨inI_succ hj (by omega), ihj (any_take_next (p := fun e : Edt => decide (e.1 ≥ (p.length : Int))) tEd.dflt hj ha hv2)⟩
              · rw [if_pos rfl]
                have hf : far p.length (List.getD h i []) = true := List.any_eq_true.2 ⟨_, mem_getD hj, hv2⟩
                rw [if_pos hf] at e
                exact ⟨by rw [he, e], trivial⟩
          · rw [if_neg g] at e
            rw [if_pos (by simpa using g), he, e]
            exact ⟨rfl, trivial⟩
      exact key h.length 0 (by omega) rfl
  · rw [if_pos (by simpa using hv)]
    unfold err7
    rw [if_neg hv]; exact ⟨rfl, trivial⟩
abbrev cFirstR : Con := { A := (.cons .int .nil), R := (.cons (.osl .int) .nil), pre := fun x => x.1 ≤ 100, F := fun x => (upI (Int.toNat x.1), ()) }
def cFirstR_0 (Λ1 : Int → (List Int) → Prop) (n : Int) (y0 : (List Int)) : Prop :=
  Λ1 (0 : Int) ([] : List Int)
def cFirstR_1 (Λ1 : Int → (List Int) → Prop) (n : Int) (y0 : (List Int))  (i_1 : Int) (out_1 : (List Int)) : Prop :=
  if (decide (i_1 < n)) = true then (List.length out_1 + List.length [i_1] ≤ 4294967296 ∧ (inI (i_1 + (1 : Int)) ∧ Λ1 (i_1 + (1 : Int)) (out_1 ++ [i_1]))) else out_1 = y0
theorem cFirstR_law (h : ∀ (n : Int), cFirstR.A.wf (n, ()) → (n ≤ 100) → ∀ (Λ1 : Int → (List Int) → Prop), (∀ (i_1 : Int) (out_1 : (List Int)), cFirstR_1 Λ1 n (upI (Int.toNat n)) i_1 out_1 → Λ1 i_1 out_1) → cFirstR_0 Λ1 n (upI (Int.toNat n))) : ConOK Go.Proofs.Try.prog 70 cFirstR := by
  refine lawL (Γ := []) (Θ := Th) (n := 15) [([1, 1, 0, 1, 0], ⟨[(0, false), (3, true), (4, true)], [(3, true)]⟩)] trivial (by kernel_rfl) th_ok mix_ok Go.Proofs.Try.func70 (by kernel_rfl) ?_
  intro x hw hp Λ hC
  have h0 := h x.1 hw hp (fun i_1 out_1 => Λ [1, 1, 0, 1, 0] ([(0, .d false .int x.1), (3, .own 3 0), (4, .d true .int i_1)], [(3, .sl true .int out_1)])) (fun i_1 out_1 hb => hC [1, 1, 0, 1, 0] ([(0, .d false .int x.1), (3, .own 3 0), (4, .d true .int i_1)], [(3, .sl true .int out_1)]) (Eq.mpr (by kernel_rfl) hb))
  exact Eq.mpr (by kernel_rfl) h0
theorem cFirstR_ok : ConOK Go.Proofs.Try.prog 70 cFirstR := by
  refine cFirstR_law ?_
  intro n hw hp Λ1 h1
  unfold cFirstR_0
  refine upto (n := n.toNat) (Q := fun i => Λ1 (i : Int) (upI (i))) ?_ ?_ 0 (Nat.zero_le _)
  · apply h1; unfold cFirstR_1; rw [if_neg (by simp; omega)]
  · intro i hi ih
    apply h1; unfold cFirstR_1; rw [if_pos (by simp; omega)]
    rw [show upI (i + 1) = upI i ++ [(i : Int)] from rfl] at ih
    exact ⟨by rw [upI_len]; simp only [List.length_cons, List.length_nil]; omega, inI_succ hi (by omega), ih⟩
abbrev cPlayR0 : Con := { A := (.cons (.sl tL) (.cons (.sl (.sl tEd)) (.cons (.sl .int) .nil))), R := (.cons (.osl tL) .nil), pre := fun x => ∃ k', x.2.2.1 = upI k' ∧ k' ≤ x.2.1.length ∧ okH x.1.length x.2.1 ∧ x.1.length ≤ 8, F := fun x => (playH x.1 (x.2.1.take x.2.2.1.length), ()) }
def cPlayR0_0 (Λ1 : Int → (List Lin) → Prop) (Λ2 : Int → Int → (List Lin) → Prop) (p : (List Lin)) (h : (List (List Edt))) (numbers : (List Int)) (y0 : (List Lin)) : Prop :=
  List.length ([] : List Lin) + List.length p ≤ 4294967296 ∧ Λ1 (0 : Int) (([] : List Lin) ++ p)
def cPlayR0_1 (Λ1 : Int → (List Lin) → Prop) (Λ2 : Int → Int → (List Lin) → Prop) (p : (List Lin)) (h : (List (List Edt))) (numbers : (List Int)) (y0 : (List Lin))  (i_1 : Int) (out_1 : (List Lin)) : Prop :=
  if (decide (i_1 < (List.length numbers : Int))) = true then (idx i_1 (List.length numbers : Int) ∧ (idx (List.getD numbers (Int.toNat i_1) 0) (List.length h : Int) ∧ Λ2 i_1 (0 : Int) out_1)) else out_1 = y0
def cPlayR0_2 (Λ1 : Int → (List Lin) → Prop) (Λ2 : Int → Int → (List Lin) → Prop) (p : (List Lin)) (h : (List (List Edt))) (numbers : (List Int)) (y0 : (List Lin)) (i_1 : Int) (k_2 : Int) (out_2 : (List Lin)) : Prop :=
  if (decide (k_2 < (List.length (List.getD h (Int.toNat (List.getD numbers (Int.toNat i_1) 0)) ([] : List Edt)) : Int))) = true then (idx k_2 (List.length (List.getD h (Int.toNat (List.getD numbers (Int.toNat i_1) 0)) ([] : List Edt)) : Int) ∧ (idx k_2 (List.length (List.getD h (Int.toNat (List.getD numbers (Int.toNat i_1) 0)) ([] : List Edt)) : Int) ∧ (idx ((List.getD (List.getD h (Int.toNat (List.getD numbers (Int.toNat i_1) 0)) ([] : List Edt)) (Int.toNat k_2) tEd.dflt).1) (List.length out_2 : Int) ∧ (inI (k_2 + (1 : Int)) ∧ Λ2 i_1 (k_2 + (1 : Int)) (List.set out_2 (Int.toNat ((List.getD (List.getD h (Int.toNat (List.getD numbers (Int.toNat i_1) 0)) ([] : List Edt)) (Int.toNat k_2) tEd.dflt).1)) ((List.getD (List.getD h (Int.toNat (List.getD numbers (Int.toNat i_1) 0)) ([] : List Edt)) (Int.toNat k_2) tEd.dflt).2.1)))))) else (inI (i_1 + (1 : Int)) ∧ Λ1 (i_1 + (1 : Int)) out_2)
theorem cPlayR0_law (h : ∀ (p : (List Lin)) (h : (List (List Edt))) (numbers : (List Int)), cPlayR0.A.wf (p, h, numbers, ()) → (∃ k', numbers = upI k' ∧ k' ≤ h.length ∧ okH p.length h ∧ p.length ≤ 8) → ∀ (Λ1 : Int → (List Lin) → Prop) (Λ2 : Int → Int → (List Lin) → Prop), (∀ (i_1 : Int) (out_1 : (List Lin)), cPlayR0_1 Λ1 Λ2 p h numbers (playH p (h.take numbers.length)) i_1 out_1 → Λ1 i_1 out_1) → (∀ (i_1 : Int) (k_2 : Int) (out_2 : (List Lin)), cPlayR0_2 Λ1 Λ2 p h numbers (playH p (h.take numbers.length)) i_1 k_2 out_2 → Λ2 i_1 k_2 out_2) → cPlayR0_0 Λ1 Λ2 p h numbers (playH p (h.take numbers.length))) : ConOK Go.Proofs.Try.prog 66 cPlayR0 := by
  refine lawL (Γ := []) (Θ := Th) (n := 46) [([1, 1, 0, 1, 0], ⟨[(1, false), (2, false), (7, true), (8, true)], [(11, true)]⟩), ([1, 1, 0, 1, 0, 0, 1, 0, 0, 1, 1, 0], ⟨[(1, false), (2, false), (7, true), (8, true), (9, false), (10, true)], [(11, true)]⟩)] trivial (by kernel_rfl) th_ok mix_ok Go.Proofs.Try.func66 (by kernel_rfl) ?_
  intro x hw hp Λ hC
  have h0 := h x.1 x.2.1 x.2.2.1 hw hp (fun i_1 out_1 => Λ [1, 1, 0, 1, 0] ([(1, .d false (.sl (.sl tEd)) x.2.1), (2, .d false (.sl .int) x.2.2.1), (7, .own 11 0), (8, .d true .int i_1)], [(11, .sl true tL out_1)])) (fun i_1 k_2 out_2 => Λ [1, 1, 0, 1, 0, 0, 1, 0, 0, 1, 1, 0] ([(1, .d false (.sl (.sl tEd)) x.2.1), (2, .d false (.sl .int) x.2.2.1), (7, .own 11 0), (8, .d true .int i_1), (9, .d false (.sl tEd) (List.getD x.2.1 (Int.toNat (List.getD x.2.2.1 (Int.toNat i_1) 0)) ([] : List Edt))), (10, .d true .int k_2)], [(11, .sl true tL out_2)])) (fun i_1 out_1 hb => hC [1, 1, 0, 1, 0] ([(1, .d false (.sl (.sl tEd)) x.2.1), (2, .d false (.sl .int) x.2.2.1), (7, .own 11 0), (8, .d true .int i_1)], [(11, .sl true tL out_1)]) (Eq.mpr (by kernel_rfl) hb)) (fun i_1 k_2 out_2 hb => hC [1, 1, 0, 1, 0, 0, 1, 0, 0, 1, 1, 0] ([(1, .d false (.sl (.sl tEd)) x.2.1), (2, .d false (.sl .int) x.2.2.1), (7, .own 11 0), (8, .d true .int i_1), (9, .d false (.sl tEd) (List.getD x.2.1 (Int.toNat (List.getD x.2.2.1 (Int.toNat i_1) 0)) ([] : List Edt))), (10, .d true .int k_2)], [(11, .sl true tL out_2)]) (Eq.mpr (by kernel_rfl) hb))
  exact Eq.mpr (by kernel_rfl) h0
theorem cPlayR0_ok : ConOK Go.Proofs.Try.prog 66 cPlayR0 := by
  refine cPlayR0_law ?_
  intro p h numbers hw hp Λ1 Λ2 h1 h2
  unfold cPlayR0_0
  obtain ⟨k', rfl, p2, p3, p4⟩ := hp
  refine ⟨by simp only [List.length_nil]; omega, ?_⟩
  rw [List.nil_append]
  have hlh : h.length ≤ 140737488355328 := hw.2.1.1
  have hnl := upI_len k'
  have hnd : ∀ i, i < k' → (upI k').getD i 0 = (i : Int) := fun i hi => upI_get k' i hi
  refine upto (n := k') (Q := fun i => Λ1 (i : Int) (playH p (h.take i))) ?_ ?_ 0 (Nat.zero_le _)
  · apply h1; unfold cPlayR0_1; rw [hnl, if_neg (by simp)]
  · intro i hi ih
    apply h1; unfold cPlayR0_1; rw [hnl, if_pos (by simpa using hi), Int.toNat_natCast, hnd i hi]
    refine ⟨idx_nat hi, idx_nat (by omega), ?_⟩
    rw [playH_take p h (by omega)] at ih
    have hm : List.getD h i [] ∈ h := mem_getD (by omega)
    have hx := p3 _ hm
    have hlx : (List.getD h i []).length ≤ 140737488355328 := (hw.2.1.2 _ hm).1
    refine upto (n := (List.getD h i []).length) (Q := fun j => Λ2 (i : Int) (j : Int) (playX (playH p (h.take i)) ((List.getD h i []).take j))) ?_ ?_ 0 (Nat.zero_le _)
    · apply h2; unfold cPlayR0_2
      rw [Int.toNat_natCast, hnd i hi, Int.toNat_natCast, if_neg (by simp), List.take_length]
      exact ⟨inI_succ hi (by omega), ih⟩
    · intro j hj ihj
      rw [playX_take _ _ hj] at ihj
      have he := hx _ (mem_getD (d := tEd.dflt) hj)
      apply h2; unfold cPlayR0_2
      rw [Int.toNat_natCast, hnd i hi, Int.toNat_natCast, Int.toNat_natCast, if_pos (by simpa using hj)]
      exact ⟨idx_nat hj, idx_nat hj, ⟨he.1, by rw [playX_len, playH_len]; exact he.2⟩, inI_succ hj hlx, ihj⟩
abbrev cPlayR : Con := { A := (.cons (.sl tL) (.cons (.sl (.sl tEd)) .nil)), R := (.cons (.osl tL) (.cons .int .nil)), pre := fun x => True, F := fun x => ((if err7 x.1 x.2.1 = 0 then playH x.1 x.2.1 else []), err7 x.1 x.2.1, ()) }
def cPlayR_0  (p : (List Lin)) (h : (List (List Edt))) (y0 : (List Lin)) (y1 : Int) : Prop :=
  True ∧ (if ((err7 p h) != (0 : Int)) = true then ((err7 p h) = y1 ∧ ([] : List Lin) = y0) else ((List.length h : Int) ≤ 100 ∧ ((∃ k', (upI (Int.toNat (List.length h : Int))) = upI k' ∧ k' ≤ h.length ∧ okH p.length h ∧ p.length ≤ 8) ∧ ((0 : Int) = y1 ∧ (playH p (h.take (upI (Int.toNat (List.length h : Int))).length)) = y0))))
theorem cPlayR_law (h : ∀ (p : (List Lin)) (h : (List (List Edt))), cPlayR.A.wf (p, h, ()) → cPlayR_0  p h (if err7 p h = 0 then playH p h else []) (err7 p h)) : ConOK Go.Proofs.Try.prog 29 cPlayR := by
  refine lawL (Γ := [(70, cFirstR), (66, cPlayR0), (33, cVal7R)]) (Θ := Th) (n := 19) [] ⟨cFirstR_ok, cPlayR0_ok, cVal7R_ok, trivial⟩ (by kernel_rfl) th_ok mix_ok Go.Proofs.Try.func29 (by kernel_rfl) ?_
  intro x hw hp Λ hC
  have h0 := h x.1 x.2.1 hw  
  exact Eq.mpr (by kernel_rfl) h0
theorem cPlayR_ok : ConOK Go.Proofs.Try.prog 29 cPlayR := by
  refine cPlayR_law ?_
  intro p h hw
  unfold cPlayR_0
  refine ⟨trivial, ?_⟩
  by_cases e : err7 p h = 0
  · rw [if_neg (by simp [e]), if_pos e]
    obtain ⟨e1, e2, e3, e4⟩ := err7_ok e
    exact ⟨by omega, ⟨h.length, by rw [Int.toNat_natCast], Nat.le_refl _, e3, (validP_ok e1).1⟩, e.symm, by rw [upI_len]; simp⟩
  · rw [if_pos (by simpa using e), if_neg e]
    exact ⟨rfl, rfl⟩
abbrev cAtR : Con := { A := (.cons (.sl tL) (.cons (.sl (.sl tEd)) (.cons .int .nil))), R := (.cons (.osl tL) (.cons .int .nil)), pre := fun x => True, F := fun x => ((if err7 x.1 x.2.1 = 0 ∧ within x.2.2.1 0 (x.2.1.length : Int) = true then playH x.1 (x.2.1.take (Int.toNat x.2.2.1)) else []), (if err7 x.1 x.2.1 = 0 then argErr (within x.2.2.1 0 (x.2.1.length : Int)) else err7 x.1 x.2.1), ()) }
def cAtR_0  (p : (List Lin)) (h : (List (List Edt))) (n : Int) (y0 : (List Lin)) (y1 : Int) : Prop :=
  True ∧ (if ((err7 p h) != (0 : Int)) = true then ((err7 p h) = y1 ∧ ([] : List Lin) = y0) else (if (decide (n < (0 : Int))) = true then (true = true ∧ ((1 : Int) = y1 ∧ ([] : List Lin) = y0)) else (True ∧ (if (bif false then true else (decide (n > (List.length h : Int)))) = true then ((1 : Int) = y1 ∧ ([] : List Lin) = y0) else (n ≤ 100 ∧ ((∃ k', (upI (Int.toNat n)) = upI k' ∧ k' ≤ h.length ∧ okH p.length h ∧ p.length ≤ 8) ∧ ((0 : Int) = y1 ∧ (playH p (h.take (upI (Int.toNat n)).length)) = y0)))))))
theorem cAtR_law (h : ∀ (p : (List Lin)) (h : (List (List Edt))) (n : Int), cAtR.A.wf (p, h, n, ()) → cAtR_0  p h n (if err7 p h = 0 ∧ within n 0 (h.length : Int) = true then playH p (h.take (Int.toNat n)) else []) (if err7 p h = 0 then argErr (within n 0 (h.length : Int)) else err7 p h)) : ConOK Go.Proofs.Try.prog 31 cAtR := by
  refine lawL (Γ := [(70, cFirstR), (66, cPlayR0), (33, cVal7R)]) (Θ := Th) (n := 28) [] ⟨cFirstR_ok, cPlayR0_ok, cVal7R_ok, trivial⟩ (by kernel_rfl) th_ok mix_ok Go.Proofs.Try.func31 (by kernel_rfl) ?_
  intro x hw hp Λ hC
  have h0 := h x.1 x.2.1 x.2.2.1 hw  
  exact Eq.mpr (by kernel_rfl) h0
theorem cAtR_ok : ConOK Go.Proofs.Try.prog 31 cAtR := by
  refine cAtR_law ?_
  intro p h n hw
  unfold cAtR_0
  refine ⟨trivial, ?_⟩
  by_cases e : err7 p h = 0
  · rw [if_neg (by simp [e]), if_pos e]
    obtain ⟨e1, e2, e3, e4⟩ := err7_ok e
    by_cases a1 : n < 0
    · have hL : within n 0 (h.length : Int) = false := by
        cases hq : within n 0 (h.length : Int)
        · rfl
        · have := within_iff.1 hq; omega
      rw [if_pos (by simpa using a1), hL, if_neg (by simp)]
      exact ⟨rfl, rfl, rfl⟩
    · rw [if_neg (by simpa using a1)]
      refine ⟨trivial, ?_⟩
      by_cases a2 : n > (h.length : Int)
      · have hL : within n 0 (h.length : Int) = false := by
          cases hq : within n 0 (h.length : Int)
          · rfl
          · have := within_iff.1 hq; omega
        rw [if_pos (by simpa using a2), hL, if_neg (by simp)]
        exact ⟨rfl, rfl⟩
      · have hL : within n 0 (h.length : Int) = true := within_iff.2 ⟨by omega, by omega⟩
        rw [if_neg (by simpa using a2), hL, if_pos ⟨e, rfl⟩]
        exact ⟨by omega, ⟨n.toNat, rfl, by omega, e3, (validP_ok e1).1⟩, rfl, by rw [upI_len]⟩
  · rw [if_pos (by simpa using e), if_neg e, if_neg (fun q => e q.1)]
    exact ⟨rfl, rfl⟩
abbrev cSameL4 : Con := { A := (.cons (.sl tL) (.cons (.sl tL) .nil)), R := (.cons .bool .nil), pre := fun x => x.1.length ≤ 1000000, F := fun x => (decide (x.1 = x.2.1), ()) }
def cSameL4_0 (Λ1 : Int → Prop) (p : (List Lin)) (q : (List Lin)) (y0 : Bool) : Prop :=
  if ((List.length p : Int) != (List.length q : Int)) = true then (false = y0 ∧ True) else Λ1 (0 : Int)
def cSameL4_1 (Λ1 : Int → Prop) (p : (List Lin)) (q : (List Lin)) (y0 : Bool)  (i_1 : Int) : Prop :=
  if (decide (i_1 < (List.length p : Int))) = true then (idx i_1 (List.length p : Int) ∧ (idx i_1 (List.length q : Int) ∧ (if (!(T.eqB tL (List.getD p (Int.toNat i_1) tL.dflt) (List.getD q (Int.toNat i_1) tL.dflt))) = true then (false = y0 ∧ True) else (inI (i_1 + (1 : Int)) ∧ Λ1 (i_1 + (1 : Int)))))) else (true = y0 ∧ True)
theorem cSameL4_law (h : ∀ (p : (List Lin)) (q : (List Lin)), cSameL4.A.wf (p, q, ()) → (p.length ≤ 1000000) → ∀ (Λ1 : Int → Prop), (∀ (i_1 : Int), cSameL4_1 Λ1 p q (decide (p = q)) i_1 → Λ1 i_1) → cSameL4_0 Λ1 p q (decide (p = q))) : ConOK Go.Proofs.Try.prog 22 cSameL4 := by
  refine lawL (Γ := []) (Θ := Th) (n := 26) [([1, 1, 0, 1, 0], ⟨[(0, false), (1, false), (5, true)], []⟩)] trivial (by kernel_rfl) th_ok mix_ok Go.Proofs.Try.func22 (by kernel_rfl) ?_
  intro x hw hp Λ hC
  have h0 := h x.1 x.2.1 hw hp (fun i_1 => Λ [1, 1, 0, 1, 0] ([(0, .d false (.sl tL) x.1), (1, .d false (.sl tL) x.2.1), (5, .d true .int i_1)], [])) (fun i_1 hb => hC [1, 1, 0, 1, 0] ([(0, .d false (.sl tL) x.1), (1, .d false (.sl tL) x.2.1), (5, .d true .int i_1)], []) (Eq.mpr (by kernel_rfl) hb))
  exact Eq.mpr (by kernel_rfl) h0
theorem cSameL4_ok : ConOK Go.Proofs.Try.prog 22 cSameL4 := by
  refine cSameL4_law ?_
  intro p q hw hp Λ1 h1
  unfold cSameL4_0
  by_cases hl : p.length = q.length
  · rw [if_neg (by simp [hl])]
    refine upto (n := p.length) (Q := fun i => p.take i = q.take i → Λ1 i) ?_ ?_ 0 (Nat.zero_le _) rfl
    · intro ha
      rw [List.take_length, List.take_of_length_le (by omega)] at ha
      apply h1; unfold cSameL4_1; rw [if_neg (by simp)]
      exact ⟨by simp [ha], trivial⟩
    · intro i hi ih ha
      apply h1; unfold cSameL4_1; rw [if_pos (by simpa using hi), Int.toNat_natCast]
      refine ⟨idx_nat hi, idx_nat (by omega), ?_⟩
      have heq := eqB_iff (t := tL) (x := List.getD p i tL.dflt) (y := List.getD q i tL.dflt) rfl
      by_cases hv : List.getD p i tL.dflt = List.getD q i tL.dflt
      · rw [if_neg (by rw [heq.2 hv]; simp)]
        exact ⟨inI_succ hi (by omega), ih (take_eq_next tL.dflt hi hl ha hv)⟩
      · rw [if_pos (by
          cases hq : T.eqB tL (List.getD p i tL.dflt) (List.getD q i tL.dflt)
          · rfl
          · exact absurd (heq.1 hq) hv)]
        exact ⟨by simp [ne_at tL.dflt hv], trivial⟩
  · rw [if_pos (by simp; omega)]
    exact ⟨by simp; exact fun e => hl (by rw [e]), trivial⟩
abbrev cLong7 : Con := { A := (.cons (.sl tL) (.cons (.sl (.sl tEd)) .nil)), R := (.cons .bool .nil), pre := fun x => True, F := fun x => (decide (∃ x' ∈ x.2.1, 50 < x'.length) || decide (100 < x.1.length) || decide (50 < x.2.1.length), ()) }
def cLong7_0 (Λ1 : Int → Prop) (p : (List Lin)) (h : (List (List Edt))) (y0 : Bool) : Prop :=
  Λ1 (0 : Int)
def cLong7_1 (Λ1 : Int → Prop) (p : (List Lin)) (h : (List (List Edt))) (y0 : Bool)  (i_1 : Int) : Prop :=
  if (decide (i_1 < (List.length h : Int))) = true then (idx i_1 (List.length h : Int) ∧ (if (decide ((List.length (List.getD h (Int.toNat i_1) ([] : List Edt)) : Int) > (50 : Int))) = true then (true = y0 ∧ True) else (inI (i_1 + (1 : Int)) ∧ Λ1 (i_1 + (1 : Int))))) else (if (decide ((List.length p : Int) > (100 : Int))) = true then (true = true ∧ (true = y0 ∧ True)) else (True ∧ ((bif false then true else (decide ((List.length h : Int) > (50 : Int)))) = y0 ∧ True)))
theorem cLong7_law (h : ∀ (p : (List Lin)) (h : (List (List Edt))), cLong7.A.wf (p, h, ()) → ∀ (Λ1 : Int → Prop), (∀ (i_1 : Int), cLong7_1 Λ1 p h (decide (∃ x' ∈ h, 50 < x'.length) || decide (100 < p.length) || decide (50 < h.length)) i_1 → Λ1 i_1) → cLong7_0 Λ1 p h (decide (∃ x' ∈ h, 50 < x'.length) || decide (100 < p.length) || decide (50 < h.length))) : ConOK Go.Proofs.Try.prog 15 cLong7 := by
  refine lawL (Γ := []) (Θ := Th) (n := 26) [([1, 0, 1, 0], ⟨[(0, false), (1, false), (5, true)], []⟩)] trivial (by kernel_rfl) th_ok mix_ok Go.Proofs.Try.func15 (by kernel_rfl) ?_
  intro x hw hp Λ hC
  have h0 := h x.1 x.2.1 hw (fun i_1 => Λ [1, 0, 1, 0] ([(0, .d false (.sl tL) x.1), (1, .d false (.sl (.sl tEd)) x.2.1), (5, .d true .int i_1)], [])) (fun i_1 hb => hC [1, 0, 1, 0] ([(0, .d false (.sl tL) x.1), (1, .d false (.sl (.sl tEd)) x.2.1), (5, .d true .int i_1)], []) (Eq.mpr (by kernel_rfl) hb))
  exact Eq.mpr (by kernel_rfl) h0
theorem cLong7_ok : ConOK Go.Proofs.Try.prog 15 cLong7 := by
  refine cLong7_law ?_
  intro p h hw Λ1 h1
  unfold cLong7_0
  have hlh : h.length ≤ 140737488355328 := hw.2.1.1
  refine upto (n := h.length) (Q := fun i => (∀ x ∈ h.take i, ¬ 50 < x.length) → Λ1 (i : Int)) ?_ ?_ 0 (Nat.zero_le _) (fun x hx => by simp at hx)
  · intro ha
    rw [List.take_length] at ha
    apply h1; unfold cLong7_1
    rw [if_neg (by simp)]
    have hx : decide (∃ x' ∈ h, 50 < x'.length) = false := decide_eq_false (fun ⟨x, h1, h2⟩ => ha x h1 h2)
    rw [hx]
    by_cases c : p.length > 100
    · rw [if_pos (by simp; omega)]; exact ⟨rfl, by simp; omega, trivial⟩
    · rw [if_neg (by simp; omega)]
      refine ⟨trivial, ?_, trivial⟩
      have : decide (100 < p.length) = false := decide_eq_false (by omega)
      rw [this, Bool.eq_iff_iff]
      simp
      omega
  · intro i hi ih ha
    apply h1; unfold cLong7_1
    rw [if_pos (by simpa using hi), Int.toNat_natCast]
    refine ⟨idx_nat hi, ?_⟩
    by_cases c : (List.getD h i []).length > 50
    · rw [if_pos (by refine decide_eq_true ?_; omega)]
      refine ⟨?_, trivial⟩
      have : decide (∃ x' ∈ h, 50 < x'.length) = true := decide_eq_true ⟨_, mem_getD hi, c⟩
      rw [this]; rfl
    · rw [if_neg (by rw [decide_eq_true_eq]; omega)]
      refine ⟨inI_succ hi hlh, ih fun x hx => ?_⟩
      rw [take_snoc [] hi] at hx
      rcases List.mem_append.1 hx with g | g
      · exact ha x g
      · simp only [List.mem_singleton] at g; subst g; omega
abbrev cStoryPlays : Con := { A := (.cons (.sl tL) (.cons (.sl (.sl tEd)) (.cons .int .nil))), R := (.cons .bool .nil), pre := fun x => True, F := fun x => (true, ()) }
def cStoryPlays_0 (Λ1 : Int → (List Lin) → Prop) (Λ2 : Int → (List Lin) → Prop) (p : (List Lin)) (h : (List (List Edt))) (n : Int) (y0 : Bool) : Prop :=
  True ∧ (if (decide (∃ x' ∈ h, 50 < x'.length) || decide (100 < p.length) || decide (50 < h.length)) = true then (True ∧ (true = y0 ∧ True)) else (List.length ([] : List Lin) + List.length p ≤ 4294967296 ∧ (True ∧ (True ∧ (True ∧ (True ∧ (True ∧ (True ∧ (if ((err7 p h) != (err7 p h)) = true then (true = true ∧ (true = true ∧ (true = true ∧ (true = true ∧ (false = y0 ∧ True))))) else (((if err7 (([] : List Lin) ++ p) h = 0 then playH (([] : List Lin) ++ p) h else [])).length ≤ 1000000 ∧ (True ∧ (if (bif false then true else (!(decide (((if err7 (([] : List Lin) ++ p) h = 0 then playH (([] : List Lin) ++ p) h else [])) = ((if err7 p h = 0 then playH p h else [])))))) = true then (true = true ∧ (true = true ∧ (true = true ∧ (false = y0 ∧ True)))) else (True ∧ (if (bif false then true else ((err7 (([] : List Lin) ++ p) h) != (err7 p h))) = true then (true = true ∧ (true = true ∧ (false = y0 ∧ True))) else (((if err7 (([] : List Lin) ++ p) h = 0 ∧ within n 0 (h.length : Int) = true then playH (([] : List Lin) ++ p) (h.take (Int.toNat n)) else [])).length ≤ 1000000 ∧ (True ∧ (if (bif false then true else (!(decide (((if err7 (([] : List Lin) ++ p) h = 0 ∧ within n 0 (h.length : Int) = true then playH (([] : List Lin) ++ p) (h.take (Int.toNat n)) else [])) = ((if err7 p h = 0 ∧ within n 0 (h.length : Int) = true then playH p (h.take (Int.toNat n)) else [])))))) = true then (true = true ∧ (false = y0 ∧ True)) else (True ∧ (if (bif false then true else (((if err7 (([] : List Lin) ++ p) h = 0 then argErr (within n 0 (h.length : Int)) else err7 (([] : List Lin) ++ p) h)) != ((if err7 p h = 0 then argErr (within n 0 (h.length : Int)) else err7 p h)))) = true then (false = y0 ∧ True) else Λ1 (0 : Int) ((if err7 (([] : List Lin) ++ p) h = 0 then playH (([] : List Lin) ++ p) h else [])))))))))))))))))))))
def cStoryPlays_1 (Λ1 : Int → (List Lin) → Prop) (Λ2 : Int → (List Lin) → Prop) (p : (List Lin)) (h : (List (List Edt))) (n : Int) (y0 : Bool)  (k_1 : Int) (a_1 : (List Lin)) : Prop :=
  if (decide (k_1 < (List.length a_1 : Int))) = true then (idx k_1 (List.length a_1 : Int) ∧ (inI (k_1 + (1 : Int)) ∧ Λ1 (k_1 + (1 : Int)) (List.set a_1 (Int.toNat k_1) ((-1), (List.getD a_1 (Int.toNat k_1) tL.dflt).2.1, (List.getD a_1 (Int.toNat k_1) tL.dflt).2.2.1, (List.getD a_1 (Int.toNat k_1) tL.dflt).2.2.2.1, ())))) else Λ2 (0 : Int) ((if err7 (([] : List Lin) ++ p) h = 0 ∧ within n 0 (h.length : Int) = true then playH (([] : List Lin) ++ p) (h.take (Int.toNat n)) else []))
def cStoryPlays_2 (Λ1 : Int → (List Lin) → Prop) (Λ2 : Int → (List Lin) → Prop) (p : (List Lin)) (h : (List (List Edt))) (n : Int) (y0 : Bool)  (k_2 : Int) (c_2 : (List Lin)) : Prop :=
  if (decide (k_2 < (List.length c_2 : Int))) = true then (idx k_2 (List.length c_2 : Int) ∧ (inI (k_2 + (1 : Int)) ∧ Λ2 (k_2 + (1 : Int)) (List.set c_2 (Int.toNat k_2) ((-1), (List.getD c_2 (Int.toNat k_2) tL.dflt).2.1, (List.getD c_2 (Int.toNat k_2) tL.dflt).2.2.1, (List.getD c_2 (Int.toNat k_2) tL.dflt).2.2.2.1, ())))) else ((([] : List Lin) ++ p).length ≤ 1000000 ∧ (if (decide ((([] : List Lin) ++ p) = p)) = true then (True ∧ (True ∧ ((bif true then true else false) = y0 ∧ True))) else (false = false ∧ (false = y0 ∧ True))))
theorem cStoryPlays_law (h : ∀ (p : (List Lin)) (h : (List (List Edt))) (n : Int), cStoryPlays.A.wf (p, h, n, ()) → ∀ (Λ1 : Int → (List Lin) → Prop) (Λ2 : Int → (List Lin) → Prop), (∀ (k_1 : Int) (a_1 : (List Lin)), cStoryPlays_1 Λ1 Λ2 p h n true k_1 a_1 → Λ1 k_1 a_1) → (∀ (k_2 : Int) (c_2 : (List Lin)), cStoryPlays_2 Λ1 Λ2 p h n true k_2 c_2 → Λ2 k_2 c_2) → cStoryPlays_0 Λ1 Λ2 p h n true) : ConOK Go.Proofs.Try.prog 7 cStoryPlays := by
  refine lawL (Γ := [(30, cAt7), (31, cAtR), (15, cLong7), (24, cPlay), (29, cPlayR), (22, cSameL4), (16, cSane7), (32, cVal7), (33, cVal7R)]) (Θ := Th) (n := 106) [([1, 1, 1, 1, 1, 1, 1, 1, 0, 1, 0], ⟨[(0, false), (7, true), (8, true), (12, true), (16, true)], [(22, true), (28, true), (41, true)]⟩), ([1, 1, 1, 1, 1, 1, 1, 1, 1, 0, 1, 0], ⟨[(0, false), (7, true), (12, true), (17, true)], [(22, true), (41, true)]⟩)] ⟨cAt7_ok, cAtR_ok, cLong7_ok, cPlay_ok, cPlayR_ok, cSameL4_ok, cSane7_ok, cVal7_ok, cVal7R_ok, trivial⟩ (by kernel_rfl) th_ok mix_ok Go.Proofs.Try.func7 (by kernel_rfl) ?_
  intro x hw hp Λ hC
  have h0 := h x.1 x.2.1 x.2.2.1 hw (fun k_1 a_1 => Λ [1, 1, 1, 1, 1, 1, 1, 1, 0, 1, 0] ([(0, .d false (.sl tL) x.1), (7, .own 22 0), (8, .own 28 0), (12, .own 41 0), (16, .d true .int k_1)], [(22, .sl true tL (([] : List Lin) ++ x.1)), (28, .sl true tL a_1), (41, .sl true tL ((if err7 (([] : List Lin) ++ x.1) x.2.1 = 0 ∧ within x.2.2.1 0 (x.2.1.length : Int) = true then playH (([] : List Lin) ++ x.1) (x.2.1.take (Int.toNat x.2.2.1)) else [])))])) (fun k_2 c_2 => Λ [1, 1, 1, 1, 1, 1, 1, 1, 1, 0, 1, 0] ([(0, .d false (.sl tL) x.1), (7, .own 22 0), (12, .own 41 0), (17, .d true .int k_2)], [(22, .sl true tL (([] : List Lin) ++ x.1)), (41, .sl true tL c_2)])) (fun k_1 a_1 hb => hC [1, 1, 1, 1, 1, 1, 1, 1, 0, 1, 0] ([(0, .d false (.sl tL) x.1), (7, .own 22 0), (8, .own 28 0), (12, .own 41 0), (16, .d true .int k_1)], [(22, .sl true tL (([] : List Lin) ++ x.1)), (28, .sl true tL a_1), (41, .sl true tL ((if err7 (([] : List Lin) ++ x.1) x.2.1 = 0 ∧ within x.2.2.1 0 (x.2.1.length : Int) = true then playH (([] : List Lin) ++ x.1) (x.2.1.take (Int.toNat x.2.2.1)) else [])))]) (Eq.mpr (by kernel_rfl) hb)) (fun k_2 c_2 hb => hC [1, 1, 1, 1, 1, 1, 1, 1, 1, 0, 1, 0] ([(0, .d false (.sl tL) x.1), (7, .own 22 0), (12, .own 41 0), (17, .d true .int k_2)], [(22, .sl true tL (([] : List Lin) ++ x.1)), (41, .sl true tL c_2)]) (Eq.mpr (by kernel_rfl) hb))
  exact Eq.mpr (by kernel_rfl) h0
theorem cStoryPlays_ok : ConOK Go.Proofs.Try.prog 7 cStoryPlays := by
  refine cStoryPlays_law ?_
  intro p h n hw Λ1 Λ2 h1 h2
  unfold cStoryPlays_0
  cases c : (decide (∃ x' ∈ h, 50 < x'.length) || decide (100 < p.length) || decide (50 < h.length))
  · have hpl : p.length ≤ 100 := by
      simp only [Bool.or_eq_false_iff, decide_eq_false_iff_not] at c; omega
    have k2 : ∀ l : List Lin, l.length ≤ 100 → Λ2 0 l := by
      intro l hl
      refine upto (n := l.length) (Q := fun k => ∀ l' : List Lin, l'.length = l.length → Λ2 (k : Int) l') ?_ ?_ 0 (Nat.zero_le _) l rfl
      · intro l' hl'
        apply h2; unfold cStoryPlays_2
        rw [if_neg (by rw [hl']; simp)]
        have : p.length ≤ 1000000 := by omega
        simp [this]
      · intro k hk ih l' hl'
        apply h2; unfold cStoryPlays_2
        rw [if_pos (by rw [hl']; simpa using hk)]
        exact ⟨⟨by omega, by omega⟩, by unfold inI; omega, ih _ (by rw [List.length_set]; exact hl')⟩
    have lB : (if err7 p h = 0 ∧ within n 0 (h.length : Int) = true then playH p (h.take (Int.toNat n)) else []).length ≤ 100 := by
      split
      · rw [playH_len]; exact hpl
      · simp
    have lA : (if err7 p h = 0 then playH p h else []).length ≤ 100 := by
      split
      · rw [playH_len]; exact hpl
      · simp
    have k1 : ∀ l : List Lin, l.length ≤ 100 → Λ1 0 l := by
      intro l hl
      refine upto (n := l.length) (Q := fun k => ∀ l' : List Lin, l'.length = l.length → Λ1 (k : Int) l') ?_ ?_ 0 (Nat.zero_le _) l rfl
      · intro l' hl'
        apply h1; unfold cStoryPlays_1
        rw [if_neg (by rw [hl']; simp), List.nil_append]
        exact k2 _ lB
      · intro k hk ih l' hl'
        apply h1; unfold cStoryPlays_1
        rw [if_pos (by rw [hl']; simpa using hk)]
        exact ⟨⟨by omega, by omega⟩, by unfold inI; omega, ih _ (by rw [List.length_set]; exact hl')⟩
    refine ⟨trivial, ?_⟩
    rw [if_neg (by simp)]
    rw [List.nil_append]
    refine ⟨by simp only [List.length_nil]; omega, trivial, trivial, trivial, trivial, trivial, trivial, ?_⟩
    rw [if_neg (by simp)]
    refine ⟨by omega, trivial, ?_⟩
    rw [if_neg (by simp)]
    refine ⟨trivial, ?_⟩
    rw [if_neg (by simp)]
    refine ⟨by omega, trivial, ?_⟩
    rw [if_neg (by simp)]
    refine ⟨trivial, ?_⟩
    rw [if_neg (by simp)]
    exact k1 _ lA
  · refine ⟨trivial, ?_⟩
    rw [if_pos rfl]
    exact ⟨trivial, rfl, trivial⟩
end Go.Tk
