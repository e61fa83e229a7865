import Derived.Test.YthjkkjnnkkekeaaC1
import Derived.Test.YthjkkjnnkkekeaaP7
set_option linter.unusedSimpArgs false
set_option linter.unusedVariables false
set_option linter.unnecessarySimpa false
namespace Go.Tk
open Go Go.RowKit

abbrev cValX : Con := { A := (.cons (.sl tEd) .nil), R := (.cons .int .nil), pre := fun x => True, F := fun x => (validX x.1, ()) }
def cValX_0 (Λ1 : Int → Prop) (x : (List Edt)) (y0 : Int) : Prop :=
  if (decide ((List.length x : Int) > (4 : Int))) = true then ((3 : Int) = y0 ∧ True) else Λ1 (0 : Int)
def cValX_1 (Λ1 : Int → Prop) (x : (List Edt)) (y0 : Int)  (t10_1 : Int) : Prop :=
  if (decide (t10_1 < (List.length x : Int))) = true then (idx t10_1 (List.length x : Int) ∧ (if (decide ((List.getD x (Int.toNat t10_1) tEd.dflt).1 < (0 : Int))) = true then (true = true ∧ (true = true ∧ (true = true ∧ ((1 : Int) = y0 ∧ True)))) else (True ∧ (if (bif false then true else (decide ((List.getD x (Int.toNat t10_1) tEd.dflt).1 ≥ (8 : Int)))) = true then (true = true ∧ (true = true ∧ ((1 : Int) = y0 ∧ True))) else (if (decide (t10_1 > (0 : Int))) = true then (inI (t10_1 - (1 : Int)) ∧ (idx (t10_1 - (1 : Int)) (List.length x : Int) ∧ (True ∧ (True ∧ (if (bif false then true else (bif true then (decide ((List.getD x (Int.toNat (t10_1 - (1 : Int))) tEd.dflt).1 ≥ (List.getD x (Int.toNat t10_1) tEd.dflt).1)) else false)) = true then (true = true ∧ ((1 : Int) = y0 ∧ True)) else (True ∧ (True ∧ (if (bif false then true else ((argErr (validLine ((List.getD x (Int.toNat t10_1) tEd.dflt).2.1))) != (0 : Int))) = true then ((1 : Int) = y0 ∧ True) else (inI (t10_1 + (1 : Int)) ∧ Λ1 (t10_1 + (1 : Int))))))))))) else (false = false ∧ (True ∧ (if (bif false then true else false) = true then (true = true ∧ ((1 : Int) = y0 ∧ True)) else (True ∧ (True ∧ (if (bif false then true else ((argErr (validLine ((List.getD x (Int.toNat t10_1) tEd.dflt).2.1))) != (0 : Int))) = true then ((1 : Int) = y0 ∧ True) else (inI (t10_1 + (1 : Int)) ∧ Λ1 (t10_1 + (1 : Int)))))))))))))) else ((0 : Int) = y0 ∧ True)
theorem cValX_law (h : ∀ (x : (List Edt)), cValX.A.wf (x, ()) → ∀ (Λ1 : Int → Prop), (∀ (t10_1 : Int), cValX_1 Λ1 x (validX x) t10_1 → Λ1 t10_1) → cValX_0 Λ1 x (validX x)) : ConOK Go.Proofs.Try.prog 74 cValX := by
  refine lawL (Γ := [(97, cValLine)]) (Θ := Th) (n := 45) [([1, 1, 0, 1, 0], ⟨[(0, false), (8, false), (9, true), (10, true)], []⟩)] ⟨cValLine_ok, trivial⟩ (by kernel_rfl) th_ok mix_ok Go.Proofs.Try.func74 (by kernel_rfl) ?_
  intro x hw hp Λ hC
  have h0 := h x.1 hw (fun t10_1 => Λ [1, 1, 0, 1, 0] ([(0, .d false (.sl tEd) x.1), (8, .d false (.sl tEd) x.1), (9, .d true .int (List.length x.1 : Int)), (10, .d true .int t10_1)], [])) (fun t10_1 hb => hC [1, 1, 0, 1, 0] ([(0, .d false (.sl tEd) x.1), (8, .d false (.sl tEd) x.1), (9, .d true .int (List.length x.1 : Int)), (10, .d true .int t10_1)], []) (Eq.mpr (by kernel_rfl) hb))
  exact Eq.mpr (by kernel_rfl) h0
theorem cValX_ok : ConOK Go.Proofs.Try.prog 74 cValX := by
  refine cValX_law ?_
  intro x hw Λ1 h1
  unfold cValX_0
  by_cases h4 : x.length > 4
  · rw [if_pos (by simp; omega)]
    unfold validX
    rw [if_pos h4]; exact ⟨rfl, trivial⟩
  · rw [if_neg (by simp; omega)]
    have hv : validX x = argErr (okTo x x.length) := by unfold validX; rw [if_neg h4]
    have bad : ∀ i, i < x.length → edOK x i = false → 1 = validX x := fun i hi e => by rw [hv, okTo_false e _ hi]; rfl
    refine upto (n := x.length) (Q := fun i => okTo x i = true → Λ1 i) ?_ ?_ 0 (Nat.zero_le _) rfl
    · intro ha
      apply h1; unfold cValX_1; rw [if_neg (by simp), hv, ha]
      exact ⟨rfl, trivial⟩
    · intro i hi ih ha
      apply h1; unfold cValX_1; rw [if_pos (by simpa using hi), Int.toNat_natCast]
      refine ⟨idx_nat hi, ?_⟩
      have hb := bad i hi
      have ok : edOK x i = true → okTo x (i + 1) = true := fun e => by unfold okTo; rw [ha, e]; rfl
      unfold edOK at hb ok
      by_cases a1 : (x.getD i tEd.dflt).1 < 0
      · rw [if_pos (by simpa using a1)]
        exact ⟨rfl, rfl, rfl, hb (by rw [decide_eq_true a1]; rfl), trivial⟩
      rw [if_neg (by simpa using a1)]
      refine ⟨trivial, ?_⟩
      by_cases a2 : (x.getD i tEd.dflt).1 ≥ 8
      · rw [if_pos (by simpa using a2)]
        exact ⟨rfl, rfl, hb (by rw [decide_eq_true a2, Bool.or_true]; rfl), trivial⟩
      rw [if_neg (by simpa using a2)]
      have fin : (decide (i > 0) && decide ((x.getD (i - 1) tEd.dflt).1 ≥ (x.getD i tEd.dflt).1)) = false → (if (bif false then true else ((argErr (validLine ((x.getD i tEd.dflt).2.1))) != (0 : Int))) = true then ((1 : Int) = validX x ∧ True) else (inI ((i : Int) + (1 : Int)) ∧ Λ1 ((i : Int) + (1 : Int)))) := by
        intro e3
        cases a4 : validLine (x.getD i tEd.dflt).2.1
        · rw [if_pos (by rfl)]
          exact ⟨hb (by rw [a4]; simp), trivial⟩
        · rw [if_neg (by simp [argErr])]
          refine ⟨inI_succ hi (by omega), ih (ok ?_)⟩
          rw [a4, e3, decide_eq_false a1, decide_eq_false a2]; rfl
      by_cases a3 : i > 0
      · rw [if_pos (by simp; omega)]
        have e1 : ((i : Int) - 1).toNat = i - 1 := by omega
        rw [e1]
        refine ⟨by unfold inI; omega, ⟨by omega, by omega⟩, trivial, trivial, ?_⟩
        by_cases a5 : (x.getD (i - 1) tEd.dflt).1 ≥ (x.getD i tEd.dflt).1
        · rw [if_pos (by simpa using a5)]
          refine ⟨rfl, hb ?_, trivial⟩
          rw [decide_eq_true a3, decide_eq_true a5]; simp
        · rw [if_neg (by simpa using a5)]
          exact ⟨trivial, trivial, fin (by rw [decide_eq_false a5, Bool.and_false])⟩
      · rw [if_neg (by simp; omega)]
        refine ⟨rfl, trivial, ?_⟩
        rw [if_neg (by simp)]
        exact ⟨trivial, trivial, fin (by rw [decide_eq_false a3, Bool.false_and])⟩
abbrev cWithin7 : Con := { A := (.cons .int (.cons .int (.cons .int .nil))), R := (.cons .bool .nil), pre := fun x => True, F := fun x => (within x.1 x.2.1 x.2.2.1, ()) }
def cWithin7_0  (n : Int) (lo : Int) (hi : Int) (y0 : Bool) : Prop :=
  if (decide (n ≥ lo)) = true then (True ∧ ((bif true then (decide (n ≤ hi)) else false) = y0 ∧ True)) else (false = false ∧ (false = y0 ∧ True))
theorem cWithin7_law (h : ∀ (n : Int) (lo : Int) (hi : Int), cWithin7.A.wf (n, lo, hi, ()) → cWithin7_0  n lo hi (within n lo hi)) : ConOK Go.Proofs.Try.prog 71 cWithin7 := by
  refine lawL (Γ := []) (Θ := Th) (n := 15) [] trivial (by kernel_rfl) th_ok mix_ok Go.Proofs.Try.func71 (by kernel_rfl) ?_
  intro x hw hp Λ hC
  have h0 := h x.1 x.2.1 x.2.2.1 hw  
  exact Eq.mpr (by kernel_rfl) h0
theorem cWithin7_ok : ConOK Go.Proofs.Try.prog 71 cWithin7 := by
  refine cWithin7_law ?_
  intro n lo hi hw
  unfold cWithin7_0
  unfold within
  split <;> simp_all
  omega
abbrev cVal71 : Con := { A := (.cons tEd (.cons (.ref (.sl tL)) .nil)), R := (.cons .bool .nil), pre := fun x => True, F := fun x => (decide (x.1.1 ≥ (x.2.1.length : Int)), ()) }
def cVal71_0  (e : Edt) (c0 : (List Lin)) (y0 : Bool) : Prop :=
  (decide (e.1 ≥ (List.length c0 : Int))) = y0 ∧ True
theorem cVal71_law (h : ∀ (e : Edt) (c0 : (List Lin)), cVal71.A.wf (e, c0, ()) → cVal71_0  e c0 (decide (e.1 ≥ (c0.length : Int)))) : ConOK Go.Proofs.Try.prog 76 cVal71 := by
  refine lawL (Γ := []) (Θ := Th) (n := 9) [] trivial (by kernel_rfl) th_ok mix_ok Go.Proofs.Try.func76 (by kernel_rfl) ?_
  intro x hw hp Λ hC
  have h0 := h x.1 x.2.1 hw  
  exact Eq.mpr (by kernel_rfl) h0
theorem cVal71_ok : ConOK Go.Proofs.Try.prog 76 cVal71 := by
  refine cVal71_law ?_
  intro e c0 hw
  unfold cVal71_0
  exact ⟨rfl, trivial⟩
abbrev cIndexE : Con := { A := (.cons (.sl tEd) (.cons (.fn (.cons tEd .nil) (.cons .bool .nil)) .nil)), R := (.cons .int .nil), pre := fun x => ∀ r' ∈ x.1, x.2.1.1 (r', ()), F := fun x => (idxF (fun r' => (x.2.1.2 (r', ())).1) x.1, ()) }
def cIndexE_0 (Λ1 : Int → Prop) (s : (List Edt)) (f : (T.fn (.cons tEd .nil) (.cons .bool .nil)).den) (y0 : Int) : Prop :=
  Λ1 (0 : Int)
def cIndexE_1 (Λ1 : Int → Prop) (s : (List Edt)) (f : (T.fn (.cons tEd .nil) (.cons .bool .nil)).den) (y0 : Int)  (t8_1 : Int) : Prop :=
  if (decide (t8_1 < (List.length s : Int))) = true then (idx t8_1 (List.length s : Int) ∧ (f.1 ((List.getD s (Int.toNat t8_1) tEd.dflt), ()) ∧ (if ((f.2 ((List.getD s (Int.toNat t8_1) tEd.dflt), ())).1) = true then (t8_1 = y0 ∧ True) else (inI (t8_1 + (1 : Int)) ∧ Λ1 (t8_1 + (1 : Int)))))) else ((-1 : Int) = y0 ∧ True)
theorem cIndexE_law (h : ∀ (s : (List Edt)) (f : (T.fn (.cons tEd .nil) (.cons .bool .nil)).den), cIndexE.A.wf (s, f, ()) → (∀ r' ∈ s, f.1 (r', ())) → ∀ (Λ1 : Int → Prop), (∀ (t8_1 : Int), cIndexE_1 Λ1 s f (idxF (fun r' => (f.2 (r', ())).1) s) t8_1 → Λ1 t8_1) → cIndexE_0 Λ1 s f (idxF (fun r' => (f.2 (r', ())).1) s)) : ConOK Go.Proofs.Try.prog 98 cIndexE := by
  refine lawL (Γ := []) (Θ := Th) (n := 19) [([1, 0, 1, 0], ⟨[(0, false), (1, false), (7, true), (8, true)], []⟩)] trivial (by kernel_rfl) th_ok mix_ok Go.Proofs.Try.func98 (by kernel_rfl) ?_
  intro x hw hp Λ hC
  have h0 := h x.1 x.2.1 hw hp (fun t8_1 => Λ [1, 0, 1, 0] ([(0, .d false (.sl tEd) x.1), (1, .d false (.fn (.cons tEd .nil) (.cons .bool .nil)) x.2.1), (7, .d true .int (List.length x.1 : Int)), (8, .d true .int t8_1)], [])) (fun t8_1 hb => hC [1, 0, 1, 0] ([(0, .d false (.sl tEd) x.1), (1, .d false (.fn (.cons tEd .nil) (.cons .bool .nil)) x.2.1), (7, .d true .int (List.length x.1 : Int)), (8, .d true .int t8_1)], []) (Eq.mpr (by kernel_rfl) hb))
  exact Eq.mpr (by kernel_rfl) h0
theorem cIndexE_ok : ConOK Go.Proofs.Try.prog 98 cIndexE := by
  refine cIndexE_law ?_
  intro s f hw hp Λ1 h1
  unfold cIndexE_0
  refine upto (n := s.length) (Q := fun i => (s.take i).any (fun r => (f.2 (r, ())).1) = false → Λ1 i) ?_ ?_ 0 (Nat.zero_le _) rfl
  · intro ha
    rw [List.take_length] at ha
    apply h1; unfold cIndexE_1; rw [if_neg (by simp), idxF_none ha]
    exact ⟨rfl, trivial⟩
  · intro i hi ih ha
    apply h1; unfold cIndexE_1; rw [if_pos (by simpa using hi), Int.toNat_natCast]
    refine ⟨idx_nat hi, hp _ (mem_getD hi), ?_⟩
    cases hv : (f.2 (List.getD s i tEd.dflt, ())).1
    · rw [if_neg (by simp)]
      exact ⟨inI_succ hi hw.1.1, ih (any_take_next (p := fun r => (f.2 (r, ())).1) tEd.dflt hi ha hv)⟩
    · rw [if_pos (by rfl), idxF_at (p := fun r => (f.2 (r, ())).1) tEd.dflt hi ha hv]
      exact ⟨rfl, trivial⟩
abbrev cContE : Con := { A := (.cons (.sl tEd) (.cons (.fn (.cons tEd .nil) (.cons .bool .nil)) .nil)), R := (.cons .bool .nil), pre := fun x => ∀ r' ∈ x.1, x.2.1.1 (r', ()), F := fun x => (x.1.any (fun r' => (x.2.1.2 (r', ())).1), ()) }
def cContE_0  (s : (List Edt)) (f : (T.fn (.cons tEd .nil) (.cons .bool .nil)).den) (y0 : Bool) : Prop :=
  (∀ r' ∈ s, f.1 (r', ())) ∧ ((decide ((idxF (fun r' => (f.2 (r', ())).1) s) ≥ (0 : Int))) = y0 ∧ True)
theorem cContE_law (h : ∀ (s : (List Edt)) (f : (T.fn (.cons tEd .nil) (.cons .bool .nil)).den), cContE.A.wf (s, f, ()) → (∀ r' ∈ s, f.1 (r', ())) → cContE_0  s f (s.any (fun r' => (f.2 (r', ())).1))) : ConOK Go.Proofs.Try.prog 75 cContE := by
  refine lawL (Γ := [(98, cIndexE)]) (Θ := Th) (n := 9) [] ⟨cIndexE_ok, trivial⟩ (by kernel_rfl) th_ok mix_ok Go.Proofs.Try.func75 (by kernel_rfl) ?_
  intro x hw hp Λ hC
  have h0 := h x.1 x.2.1 hw hp  
  exact Eq.mpr (by kernel_rfl) h0
theorem cContE_ok : ConOK Go.Proofs.Try.prog 75 cContE := by
  refine cContE_law ?_
  intro s f hw hp
  unfold cContE_0
  exact ⟨hp, idxF_any _ _, trivial⟩
abbrev cVal7 : Con := { A := (.cons (.sl tL) (.cons (.sl (.sl tEd)) .nil)), R := (.cons .int .nil), pre := fun x => True, F := fun x => (err7 x.1 x.2.1, ()) }
def cVal7_0 (Λ1 : Int → Prop) (p : (List Lin)) (h : (List (List Edt))) (y0 : Int) : Prop :=
  True ∧ (if ((validP p) != (0 : Int)) = true then ((validP p) = y0 ∧ True) else (if (decide ((List.length h : Int) > (8 : Int))) = true then ((3 : Int) = y0 ∧ True) else Λ1 (0 : Int)))
def cVal7_1 (Λ1 : Int → Prop) (p : (List Lin)) (h : (List (List Edt))) (y0 : Int)  (t19_1 : Int) : Prop :=
  if (decide (t19_1 < (List.length h : Int))) = true then (idx t19_1 (List.length h : Int) ∧ (True ∧ (if ((validX (List.getD h (Int.toNat t19_1) ([] : List Edt))) != (0 : Int)) = true then ((validX (List.getD h (Int.toNat t19_1) ([] : List Edt))) = y0 ∧ True) else ((∀ r' ∈ (List.getD h (Int.toNat t19_1) ([] : List Edt)), (fun (xx : (Edt × Unit)) => True, fun (xx : (Edt × Unit)) => (decide (xx.1.1 ≥ (p.length : Int)), ())).1 (r', ())) ∧ (if ((List.getD h (Int.toNat t19_1) ([] : List Edt)).any (fun r' => ((fun (xx : (Edt × Unit)) => True, fun (xx : (Edt × Unit)) => (decide (xx.1.1 ≥ (p.length : Int)), ())).2 (r', ())).1)) = true then ((4 : Int) = y0 ∧ True) else (inI (t19_1 + (1 : Int)) ∧ Λ1 (t19_1 + (1 : Int)))))))) else ((0 : Int) = y0 ∧ True)
theorem cVal7_law (h : ∀ (p : (List Lin)) (h : (List (List Edt))), cVal7.A.wf (p, h, ()) → ∀ (Λ1 : Int → Prop), (∀ (t19_1 : Int), cVal7_1 Λ1 p h (err7 p h) t19_1 → Λ1 t19_1) → cVal7_0 Λ1 p h (err7 p h)) : ConOK Go.Proofs.Try.prog 32 cVal7 := by
  refine lawX (X := { subs := [], frz := [2], U := [], mul := [], nst := [], nls := [], itf := none, inp := [], arrs := [] }) (hX := xok0 _ trivial) (Γ := [(75, cContE), (76, cVal71), (73, cValP), (74, cValX)]) (Θ := Th) (n := 32) [([1, 1, 1, 0, 1, 0], ⟨[(2, false), (17, false), (18, true), (19, true)], []⟩)] ⟨cContE_ok, cVal71_ok, cValP_ok, cValX_ok, trivial⟩ (by kernel_rfl) th_ok mix_ok Go.Proofs.Try.func32 (by kernel_rfl) ?_
  intro x hw hp Λ hC
  have h0 := h x.1 x.2.1 hw (fun t19_1 => Λ [1, 1, 1, 0, 1, 0] ([(2, .ept false (.sl tL) x.1), (17, .d false (.sl (.sl tEd)) x.2.1), (18, .d true .int (List.length x.2.1 : Int)), (19, .d true .int t19_1)], [])) (fun t19_1 hb => hC [1, 1, 1, 0, 1, 0] ([(2, .ept false (.sl tL) x.1), (17, .d false (.sl (.sl tEd)) x.2.1), (18, .d true .int (List.length x.2.1 : Int)), (19, .d true .int t19_1)], []) (Eq.mpr (by kernel_rfl) hb))
  exact Eq.mpr (by kernel_rfl) h0
theorem cVal7_ok : ConOK Go.Proofs.Try.prog 32 cVal7 := by
  refine cVal7_law ?_
  intro p h hw Λ1 h1
  unfold cVal7_0
  refine ⟨trivial, ?_⟩
  by_cases hv : validP p = 0
  · rw [if_neg (by simp [hv])]
    by_cases h8 : h.length > 8
    · rw [if_pos (by simp; omega)]
      unfold err7
      rw [if_pos hv, if_pos h8]; exact ⟨rfl, trivial⟩
    · rw [if_neg (by simp; omega)]
      have he : err7 p h = errH p.length h := by unfold err7; rw [if_pos hv, if_neg h8]
      have key : ∀ n i, i + n = h.length → errH p.length h = errH p.length (h.drop i) → Λ1 (i : Int) := by
        intro n
        induction n with
        | zero =>
          intro i hi e
          apply h1; unfold cVal7_1
          rw [if_neg (by simp; omega)]
          rw [List.drop_eq_nil_of_le (by omega)] at e
          exact ⟨by rw [he, e]; rfl, trivial⟩
        | succ n ih =>
          intro i hi e
          have hl : i < h.length := by omega
          apply h1; unfold cVal7_1
          rw [if_pos (by simpa using hl), Int.toNat_natCast]
          have hd : h.drop i = h.getD i [] :: h.drop (i + 1) := by
            rw [List.drop_eq_getElem_cons hl]; simp [List.getD_eq_getElem?_getD, hl]
          rw [hd, errH] at e
          refine ⟨idx_nat hl, trivial, ?_⟩
          by_cases g : validX (h.getD i []) = 0
          · rw [if_pos g] at e
            rw [if_neg (by simpa using g)]
            refine ⟨fun _ _ => trivial, ?_⟩
            show if far p.length (h.getD i []) = true then _ else _
            by_cases f : far p.length (h.getD i []) = true
            · rw [if_pos f] at e ⊢
              exact ⟨by rw [he, e], trivial⟩
            · rw [if_neg f] at e ⊢
              exact ⟨inI_succ hl (by omega), ih (i + 1) (by omega) e⟩
          · rw [if_neg g] at e
            rw [if_pos (by simpa using g), he, e]
            exact ⟨rfl, trivial⟩
      exact key h.length 0 (by omega) rfl
  · rw [if_pos (by simpa using hv)]
    unfold err7
    rw [if_neg hv]; exact ⟨rfl, trivial⟩
abbrev cCloneL : Con := { A := (.cons (.sl tL) .nil), R := (.cons (.osl tL) .nil), pre := fun x => x.1.length ≤ 1000000, F := fun x => (x.1, ()) }
def cCloneL_0  (s : (List Lin)) (y0 : (List Lin)) : Prop :=
  (s = [] → ([] : List Lin) = y0) ∧ (True → (List.length ([] : List Lin) + List.length s ≤ 4294967296 ∧ (([] : List Lin) ++ s) = y0))
theorem cCloneL_law (h : ∀ (s : (List Lin)), cCloneL.A.wf (s, ()) → (s.length ≤ 1000000) → cCloneL_0  s s) : ConOK Go.Proofs.Try.prog 95 cCloneL := by
  refine lawL (Γ := []) (Θ := Th) (n := 8) [] trivial (by kernel_rfl) th_ok mix_ok Go.Proofs.Try.func95 (by kernel_rfl) ?_
  intro x hw hp Λ hC
  have h0 := h x.1 hw hp  
  exact Eq.mpr (by kernel_rfl) h0
theorem cCloneL_ok : ConOK Go.Proofs.Try.prog 95 cCloneL := by
  refine cCloneL_law ?_
  intro s hw hp
  unfold cCloneL_0
  exact ⟨fun h => h.symm, fun _ => ⟨by simp only [List.length_nil]; omega, by simp⟩⟩
abbrev cPlay0 : Con := { A := (.cons (.sl tL) (.cons (.sl (.sl tEd)) .nil)), R := (.cons (.osl tL) .nil), pre := fun x => okH x.1.length x.2.1 ∧ x.1.length ≤ 8, F := fun x => (playH x.1 x.2.1, ()) }
def cPlay0_0 (Λ1 : Int → (List Lin) → Prop) (Λ2 : Int → Int → (List Lin) → Prop) (p : (List Lin)) (h : (List (List Edt))) (y0 : (List Lin)) : Prop :=
  p.length ≤ 1000000 ∧ Λ1 (0 : Int) p
def cPlay0_1 (Λ1 : Int → (List Lin) → Prop) (Λ2 : Int → Int → (List Lin) → Prop) (p : (List Lin)) (h : (List (List Edt))) (y0 : (List Lin))  (t14_1 : Int) (out_1 : (List Lin)) : Prop :=
  if (decide (t14_1 < (List.length h : Int))) = true then (idx t14_1 (List.length h : Int) ∧ Λ2 t14_1 (0 : Int) out_1) else out_1 = y0
def cPlay0_2 (Λ1 : Int → (List Lin) → Prop) (Λ2 : Int → Int → (List Lin) → Prop) (p : (List Lin)) (h : (List (List Edt))) (y0 : (List Lin)) (t14_1 : Int) (t20_2 : Int) (out_2 : (List Lin)) : Prop :=
  if (decide (t20_2 < (List.length (List.getD h (Int.toNat t14_1) ([] : List Edt)) : Int))) = true then (idx t20_2 (List.length (List.getD h (Int.toNat t14_1) ([] : List Edt)) : Int) ∧ (idx ((List.getD (List.getD h (Int.toNat t14_1) ([] : List Edt)) (Int.toNat t20_2) tEd.dflt).1) (List.length out_2 : Int) ∧ (inI (t20_2 + (1 : Int)) ∧ Λ2 t14_1 (t20_2 + (1 : Int)) (List.set out_2 (Int.toNat ((List.getD (List.getD h (Int.toNat t14_1) ([] : List Edt)) (Int.toNat t20_2) tEd.dflt).1)) ((List.getD (List.getD h (Int.toNat t14_1) ([] : List Edt)) (Int.toNat t20_2) tEd.dflt).2.1))))) else (inI (t14_1 + (1 : Int)) ∧ Λ1 (t14_1 + (1 : Int)) out_2)
theorem cPlay0_law (h : ∀ (p : (List Lin)) (h : (List (List Edt))), cPlay0.A.wf (p, h, ()) → (okH p.length h ∧ p.length ≤ 8) → ∀ (Λ1 : Int → (List Lin) → Prop) (Λ2 : Int → Int → (List Lin) → Prop), (∀ (t14_1 : Int) (out_1 : (List Lin)), cPlay0_1 Λ1 Λ2 p h (playH p h) t14_1 out_1 → Λ1 t14_1 out_1) → (∀ (t14_1 : Int) (t20_2 : Int) (out_2 : (List Lin)), cPlay0_2 Λ1 Λ2 p h (playH p h) t14_1 t20_2 out_2 → Λ2 t14_1 t20_2 out_2) → cPlay0_0 Λ1 Λ2 p h (playH p h)) : ConOK Go.Proofs.Try.prog 64 cPlay0 := by
  refine lawL (Γ := [(95, cCloneL)]) (Θ := Th) (n := 33) [([1, 1, 0, 1, 0], ⟨[(5, true), (12, false), (13, true), (14, true)], [(11, true)]⟩), ([1, 1, 0, 1, 0, 0, 1, 1, 0, 0, 1, 1, 0], ⟨[(5, true), (12, false), (13, true), (14, true), (18, false), (19, true), (20, true)], [(11, true)]⟩)] ⟨cCloneL_ok, trivial⟩ (by kernel_rfl) th_ok mix_ok Go.Proofs.Try.func64 (by kernel_rfl) ?_
  intro x hw hp Λ hC
  have h0 := h x.1 x.2.1 hw hp (fun t14_1 out_1 => Λ [1, 1, 0, 1, 0] ([(5, .own 11 0), (12, .d false (.sl (.sl tEd)) x.2.1), (13, .d true .int (List.length x.2.1 : Int)), (14, .d true .int t14_1)], [(11, .sl true tL out_1)])) (fun t14_1 t20_2 out_2 => Λ [1, 1, 0, 1, 0, 0, 1, 1, 0, 0, 1, 1, 0] ([(5, .own 11 0), (12, .d false (.sl (.sl tEd)) x.2.1), (13, .d true .int (List.length x.2.1 : Int)), (14, .d true .int t14_1), (18, .d false (.sl tEd) (List.getD x.2.1 (Int.toNat t14_1) ([] : List Edt))), (19, .d true .int (List.length (List.getD x.2.1 (Int.toNat t14_1) ([] : List Edt)) : Int)), (20, .d true .int t20_2)], [(11, .sl true tL out_2)])) (fun t14_1 out_1 hb => hC [1, 1, 0, 1, 0] ([(5, .own 11 0), (12, .d false (.sl (.sl tEd)) x.2.1), (13, .d true .int (List.length x.2.1 : Int)), (14, .d true .int t14_1)], [(11, .sl true tL out_1)]) (Eq.mpr (by kernel_rfl) hb)) (fun t14_1 t20_2 out_2 hb => hC [1, 1, 0, 1, 0, 0, 1, 1, 0, 0, 1, 1, 0] ([(5, .own 11 0), (12, .d false (.sl (.sl tEd)) x.2.1), (13, .d true .int (List.length x.2.1 : Int)), (14, .d true .int t14_1), (18, .d false (.sl tEd) (List.getD x.2.1 (Int.toNat t14_1) ([] : List Edt))), (19, .d true .int (List.length (List.getD x.2.1 (Int.toNat t14_1) ([] : List Edt)) : Int)), (20, .d true .int t20_2)], [(11, .sl true tL out_2)]) (Eq.mpr (by kernel_rfl) hb))
  exact Eq.mpr (by kernel_rfl) h0
theorem cPlay0_ok : ConOK Go.Proofs.Try.prog 64 cPlay0 := by
  refine cPlay0_law ?_
  intro p h hw hp Λ1 Λ2 h1 h2
  unfold cPlay0_0
  obtain ⟨p1, p2⟩ := hp
  refine ⟨by omega, ?_⟩
  have hlh : h.length ≤ 140737488355328 := hw.2.1.1
  refine upto (n := h.length) (Q := fun i => Λ1 (i : Int) (playH p (h.take i))) ?_ ?_ 0 (Nat.zero_le _)
  · apply h1; unfold cPlay0_1; rw [if_neg (by simp), List.take_length]
  · intro i hi ih
    apply h1; unfold cPlay0_1; rw [if_pos (by simpa using hi)]
    refine ⟨idx_nat hi, ?_⟩
    rw [playH_take p h hi] at ih
    have hm : List.getD h i [] ∈ h := mem_getD hi
    have hx := p1 _ hm
    have hlx : (List.getD h i []).length ≤ 140737488355328 := (hw.2.1.2 _ hm).1
    refine upto (n := (List.getD h i []).length) (Q := fun j => Λ2 (i : Int) (j : Int) (playX (playH p (h.take i)) ((List.getD h i []).take j))) ?_ ?_ 0 (Nat.zero_le _)
    · apply h2; unfold cPlay0_2
      rw [Int.toNat_natCast, if_neg (by simp), List.take_length]
      exact ⟨inI_succ hi hlh, ih⟩
    · intro j hj ihj
      rw [playX_take _ _ hj] at ihj
      have he := hx _ (mem_getD (d := tEd.dflt) hj)
      apply h2; unfold cPlay0_2
      rw [Int.toNat_natCast, Int.toNat_natCast, if_pos (by simpa using hj)]
      exact ⟨idx_nat hj, ⟨he.1, by rw [playX_len, playH_len]; exact he.2⟩, inI_succ hj hlx, ihj⟩
abbrev cPlay : Con := { A := (.cons (.sl tL) (.cons (.sl (.sl tEd)) .nil)), R := (.cons (.osl tL) (.cons .int .nil)), pre := fun x => True, F := fun x => ((if err7 x.1 x.2.1 = 0 then playH x.1 x.2.1 else []), err7 x.1 x.2.1, ()) }
def cPlay_0  (p : (List Lin)) (h : (List (List Edt))) (y0 : (List Lin)) (y1 : Int) : Prop :=
  True ∧ (if ((err7 p h) != (0 : Int)) = true then ((err7 p h) = y1 ∧ ([] : List Lin) = y0) else ((okH p.length h ∧ p.length ≤ 8) ∧ ((0 : Int) = y1 ∧ (playH p h) = y0)))
theorem cPlay_law (h : ∀ (p : (List Lin)) (h : (List (List Edt))), cPlay.A.wf (p, h, ()) → cPlay_0  p h (if err7 p h = 0 then playH p h else []) (err7 p h)) : ConOK Go.Proofs.Try.prog 24 cPlay := by
  refine lawL (Γ := [(64, cPlay0), (32, cVal7)]) (Θ := Th) (n := 16) [] ⟨cPlay0_ok, cVal7_ok, trivial⟩ (by kernel_rfl) th_ok mix_ok Go.Proofs.Try.func24 (by kernel_rfl) ?_
  intro x hw hp Λ hC
  have h0 := h x.1 x.2.1 hw  
  exact Eq.mpr (by kernel_rfl) h0
theorem cPlay_ok : ConOK Go.Proofs.Try.prog 24 cPlay := by
  refine cPlay_law ?_
  intro p h hw
  unfold cPlay_0
  refine ⟨trivial, ?_⟩
  by_cases e : err7 p h = 0
  · rw [if_neg (by simp [e]), if_pos e]
    obtain ⟨e1, e2, e3, e4⟩ := err7_ok e
    exact ⟨⟨e3, (validP_ok e1).1⟩, e.symm, rfl⟩
  · rw [if_pos (by simpa using e), if_neg e]
    exact ⟨rfl, rfl⟩
abbrev cFirst : Con := { A := (.cons (.sl (.sl tEd)) (.cons .int .nil)), R := (.cons (.sl (.sl tEd)) .nil), pre := fun x => 0 ≤ x.2.1 ∧ x.2.1 ≤ (x.1.length : Int), F := fun x => (x.1.take (Int.toNat x.2.1), ()), al := true }
def cFirst_0  (h : (List (List Edt))) (n : Int) (y0 : (List (List Edt))) : Prop :=
  (0 ≤ (0 : Int) ∧ (0 : Int) ≤ n ∧ n ≤ n ∧ n ≤ (List.length h : Int)) ∧ ((List.drop (Int.toNat (0 : Int)) (List.take (Int.toNat n) h)) = y0 ∧ True)
theorem cFirst_law (h : ∀ (h : (List (List Edt))) (n : Int), cFirst.A.wf (h, n, ()) → (0 ≤ n ∧ n ≤ (h.length : Int)) → cFirst_0  h n (h.take (Int.toNat n))) : ConOK Go.Proofs.Try.prog 72 cFirst := by
  refine lawL (Γ := []) (Θ := Th) (n := 9) [] trivial (by kernel_rfl) th_ok mix_ok Go.Proofs.Try.func72 (by kernel_rfl) ?_
  intro x hw hp Λ hC
  have h0 := h x.1 x.2.1 hw hp  
  exact Eq.mpr (by kernel_rfl) h0
theorem cFirst_ok : ConOK Go.Proofs.Try.prog 72 cFirst := by
  refine cFirst_law ?_
  intro h n hw hp
  unfold cFirst_0
  obtain ⟨p1, p2⟩ := hp
  exact ⟨⟨by omega, p1, by omega, p2⟩, by simp, trivial⟩
abbrev cAt7 : Con := { A := (.cons (.sl tL) (.cons (.sl (.sl tEd)) (.cons .int .nil))), R := (.cons (.osl tL) (.cons .int .nil)), pre := fun x => True, F := fun x => ((if err7 x.1 x.2.1 = 0 ∧ within x.2.2.1 0 (x.2.1.length : Int) = true then playH x.1 (x.2.1.take (Int.toNat x.2.2.1)) else []), (if err7 x.1 x.2.1 = 0 then argErr (within x.2.2.1 0 (x.2.1.length : Int)) else err7 x.1 x.2.1), ()) }
def cAt7_0  (p : (List Lin)) (h : (List (List Edt))) (n : Int) (y0 : (List Lin)) (y1 : Int) : Prop :=
  True ∧ (if ((err7 p h) != (0 : Int)) = true then ((err7 p h) = y1 ∧ ([] : List Lin) = y0) else (True ∧ (if (!(within n (0 : Int) (List.length h : Int))) = true then ((1 : Int) = y1 ∧ ([] : List Lin) = y0) else ((0 ≤ n ∧ n ≤ (h.length : Int)) ∧ ((okH p.length (h.take (Int.toNat n)) ∧ p.length ≤ 8) ∧ ((0 : Int) = y1 ∧ (playH p (h.take (Int.toNat n))) = y0))))))
theorem cAt7_law (h : ∀ (p : (List Lin)) (h : (List (List Edt))) (n : Int), cAt7.A.wf (p, h, n, ()) → cAt7_0  p h n (if err7 p h = 0 ∧ within n 0 (h.length : Int) = true then playH p (h.take (Int.toNat n)) else []) (if err7 p h = 0 then argErr (within n 0 (h.length : Int)) else err7 p h)) : ConOK Go.Proofs.Try.prog 30 cAt7 := by
  refine lawL (Γ := [(72, cFirst), (64, cPlay0), (32, cVal7), (71, cWithin7)]) (Θ := Th) (n := 25) [] ⟨cFirst_ok, cPlay0_ok, cVal7_ok, cWithin7_ok, trivial⟩ (by kernel_rfl) th_ok mix_ok Go.Proofs.Try.func30 (by kernel_rfl) ?_
  intro x hw hp Λ hC
  have h0 := h x.1 x.2.1 x.2.2.1 hw  
  exact Eq.mpr (by kernel_rfl) h0
theorem cAt7_ok : ConOK Go.Proofs.Try.prog 30 cAt7 := by
  refine cAt7_law ?_
  intro p h n hw
  unfold cAt7_0
  refine ⟨trivial, ?_⟩
  by_cases e : err7 p h = 0
  · rw [if_neg (by simp [e]), if_pos e]
    refine ⟨trivial, ?_⟩
    obtain ⟨e1, e2, e3, e4⟩ := err7_ok e
    cases hL : within n 0 (h.length : Int)
    · rw [if_pos (by rfl), if_neg (by simp)]; exact ⟨rfl, rfl⟩
    · have hr := within_iff.1 hL
      rw [if_neg (by simp), if_pos ⟨e, rfl⟩]
      exact ⟨hr, ⟨fun x hx => e3 x (List.mem_of_mem_take hx), (validP_ok e1).1⟩, rfl, rfl⟩
  · rw [if_pos (by simpa using e), if_neg e, if_neg (fun q => e q.1)]
    exact ⟨rfl, rfl⟩
end Go.Tk
