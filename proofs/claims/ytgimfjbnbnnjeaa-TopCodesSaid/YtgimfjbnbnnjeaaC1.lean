import Derived.Test.YtgimfjbnbnnjeaaP1
set_option linter.unusedSimpArgs false
set_option linter.unusedVariables false
namespace Go.Tk
open Go Go.RowKit

theorem idx_nat {i n : Nat} (h : i < n) : idx (i : Int) (n : Int) := ⟨by omega, by omega⟩
theorem inI_succ {i n : Nat} (h : i < n) (hn : n ≤ 140737488355328) : inI ((i : Int) + 1) := by unfold inI; omega

abbrev cWithin1 : Con := { A := (.cons .int (.cons .int (.cons .int .nil))), R := (.cons .bool .nil), pre := fun x => True, F := fun x => (within x.1 x.2.1 x.2.2.1, ()) }
def cWithin1_0  (n : Int) (lo : Int) (hi : Int) (y0 : Bool) : Prop :=
  if (decide (n ≥ lo)) = true then (True ∧ ((bif true then (decide (n ≤ hi)) else false) = y0 ∧ True)) else (false = false ∧ (false = y0 ∧ True))
theorem cWithin1_law (h : ∀ (n : Int) (lo : Int) (hi : Int), cWithin1.A.wf (n, lo, hi, ()) → cWithin1_0  n lo hi (within n lo hi)) : ConOK Go.Proofs.Try.prog 21 cWithin1 := by
  refine lawL (Γ := []) (Θ := Th) (n := 15) [] trivial (by kernel_rfl) th_ok mix_ok Go.Proofs.Try.func21 (by kernel_rfl) ?_
  intro x hw hp Λ hC
  have h0 := h x.1 x.2.1 x.2.2.1 hw  
  exact Eq.mpr (by kernel_rfl) h0
theorem cWithin1_ok : ConOK Go.Proofs.Try.prog 21 cWithin1 := by
  refine cWithin1_law ?_
  intro n lo hi hw
  unfold cWithin1_0
  unfold within
  split <;> simp_all
  omega
abbrev cIsReg1 : Con := { A := (.cons .int .nil), R := (.cons .bool .nil), pre := fun x => True, F := fun x => (isReg x.1, ()) }
def cIsReg1_0  (n : Int) (y0 : Bool) : Prop :=
  True ∧ ((within n (0 : Int) (3 : Int)) = y0 ∧ True)
theorem cIsReg1_law (h : ∀ (n : Int), cIsReg1.A.wf (n, ()) → cIsReg1_0  n (isReg n)) : ConOK Go.Proofs.Try.prog 27 cIsReg1 := by
  refine lawL (Γ := [(21, cWithin1)]) (Θ := Th) (n := 5) [] ⟨cWithin1_ok, trivial⟩ (by kernel_rfl) th_ok mix_ok Go.Proofs.Try.func27 (by kernel_rfl) ?_
  intro x hw hp Λ hC
  have h0 := h x.1 hw  
  exact Eq.mpr (by kernel_rfl) h0
theorem cIsReg1_ok : ConOK Go.Proofs.Try.prog 27 cIsReg1 := by
  refine cIsReg1_law ?_
  intro n hw
  unfold cIsReg1_0
  exact ⟨trivial, rfl, trivial⟩
abbrev cValLine : Con := { A := (.cons tL .nil), R := (.cons .int .nil), pre := fun x => True, F := fun x => (argErr (validLine x.1), ()) }
def cValLine_0  (l : Lin) (y0 : Int) : Prop :=
  if (l.1 == (0 : Int)) = true then (if (!(T.eqB tL l (0, 0, 0, 0, ()))) = true then ((1 : Int) = y0 ∧ True) else ((0 : Int) = y0 ∧ True)) else (if (l.1 == (1 : Int)) = true then (True ∧ (if (isReg l.2.1) = true then (True ∧ (True ∧ (if (bif true then (within l.2.2.1 (-9 : Int) (9 : Int)) else false) = true then (True ∧ (if (!(bif true then (l.2.2.2.1 == (0 : Int)) else false)) = true then ((1 : Int) = y0 ∧ True) else ((0 : Int) = y0 ∧ True))) else (false = false ∧ ((1 : Int) = y0 ∧ True))))) else (false = false ∧ (false = false ∧ ((1 : Int) = y0 ∧ True))))) else (if (l.1 == (2 : Int)) = true then (True ∧ (if (isReg l.2.1) = true then (True ∧ (True ∧ (if (bif true then (isReg l.2.2.1) else false) = true then (True ∧ (if (!(bif true then (l.2.2.2.1 == (0 : Int)) else false)) = true then ((1 : Int) = y0 ∧ True) else ((0 : Int) = y0 ∧ True))) else (false = false ∧ ((1 : Int) = y0 ∧ True))))) else (false = false ∧ (false = false ∧ ((1 : Int) = y0 ∧ True))))) else (if (l.1 == (3 : Int)) = true then (if (l.1 == (3 : Int)) = true then (True ∧ (if (isReg l.2.1) = true then (True ∧ (True ∧ (if (bif true then (isReg l.2.2.1) else false) = true then (True ∧ (True ∧ (if (!(bif true then (isReg l.2.2.2.1) else false)) = true then ((1 : Int) = y0 ∧ True) else ((0 : Int) = y0 ∧ True)))) else (false = false ∧ ((1 : Int) = y0 ∧ True))))) else (false = false ∧ (false = false ∧ ((1 : Int) = y0 ∧ True))))) else (if (l.1 == (7 : Int)) = true then (True ∧ (if (within l.2.1 (1 : Int) (8 : Int)) = true then (True ∧ (True ∧ (if (bif true then (isReg l.2.2.1) else false) = true then (True ∧ (True ∧ (if (!(bif true then (isReg l.2.2.2.1) else false)) = true then ((1 : Int) = y0 ∧ True) else ((0 : Int) = y0 ∧ True)))) else (false = false ∧ ((1 : Int) = y0 ∧ True))))) else (false = false ∧ (false = false ∧ ((1 : Int) = y0 ∧ True))))) else ((1 : Int) = y0 ∧ True))) else (if (l.1 == (4 : Int)) = true then (if (l.1 == (4 : Int)) = true then (True ∧ (if (isReg l.2.1) = true then (True ∧ (True ∧ (if (bif true then (isReg l.2.2.1) else false) = true then (True ∧ (True ∧ (if (!(bif true then (isReg l.2.2.2.1) else false)) = true then ((1 : Int) = y0 ∧ True) else ((0 : Int) = y0 ∧ True)))) else (false = false ∧ ((1 : Int) = y0 ∧ True))))) else (false = false ∧ (false = false ∧ ((1 : Int) = y0 ∧ True))))) else (if (l.1 == (7 : Int)) = true then (True ∧ (if (within l.2.1 (1 : Int) (8 : Int)) = true then (True ∧ (True ∧ (if (bif true then (isReg l.2.2.1) else false) = true then (True ∧ (True ∧ (if (!(bif true then (isReg l.2.2.2.1) else false)) = true then ((1 : Int) = y0 ∧ True) else ((0 : Int) = y0 ∧ True)))) else (false = false ∧ ((1 : Int) = y0 ∧ True))))) else (false = false ∧ (false = false ∧ ((1 : Int) = y0 ∧ True))))) else ((1 : Int) = y0 ∧ True))) else (if (l.1 == (5 : Int)) = true then (if (l.1 == (5 : Int)) = true then (True ∧ (if (isReg l.2.1) = true then (True ∧ (True ∧ (if (bif true then (isReg l.2.2.1) else false) = true then (True ∧ (True ∧ (if (!(bif true then (isReg l.2.2.2.1) else false)) = true then ((1 : Int) = y0 ∧ True) else ((0 : Int) = y0 ∧ True)))) else (false = false ∧ ((1 : Int) = y0 ∧ True))))) else (false = false ∧ (false = false ∧ ((1 : Int) = y0 ∧ True))))) else (if (l.1 == (7 : Int)) = true then (True ∧ (if (within l.2.1 (1 : Int) (8 : Int)) = true then (True ∧ (True ∧ (if (bif true then (isReg l.2.2.1) else false) = true then (True ∧ (True ∧ (if (!(bif true then (isReg l.2.2.2.1) else false)) = true then ((1 : Int) = y0 ∧ True) else ((0 : Int) = y0 ∧ True)))) else (false = false ∧ ((1 : Int) = y0 ∧ True))))) else (false = false ∧ (false = false ∧ ((1 : Int) = y0 ∧ True))))) else ((1 : Int) = y0 ∧ True))) else (if (l.1 == (6 : Int)) = true then (True ∧ (if (isReg l.2.1) = true then (True ∧ (True ∧ (if (bif true then (isReg l.2.2.1) else false) = true then (True ∧ (True ∧ (if (!(bif true then (isReg l.2.2.2.1) else false)) = true then ((1 : Int) = y0 ∧ True) else ((0 : Int) = y0 ∧ True)))) else (false = false ∧ ((1 : Int) = y0 ∧ True))))) else (false = false ∧ (false = false ∧ ((1 : Int) = y0 ∧ True))))) else (if (l.1 == (7 : Int)) = true then (True ∧ (if (within l.2.1 (1 : Int) (8 : Int)) = true then (True ∧ (True ∧ (if (bif true then (isReg l.2.2.1) else false) = true then (True ∧ (True ∧ (if (!(bif true then (isReg l.2.2.2.1) else false)) = true then ((1 : Int) = y0 ∧ True) else ((0 : Int) = y0 ∧ True)))) else (false = false ∧ ((1 : Int) = y0 ∧ True))))) else (false = false ∧ (false = false ∧ ((1 : Int) = y0 ∧ True))))) else ((1 : Int) = y0 ∧ True))))))))
theorem cValLine_law (h : ∀ (l : Lin), cValLine.A.wf (l, ()) → cValLine_0  l (argErr (validLine l))) : ConOK Go.Proofs.Try.prog 32 cValLine := by
  refine lawL (Γ := [(27, cIsReg1), (21, cWithin1)]) (Θ := Th) (n := 76) [] ⟨cIsReg1_ok, cWithin1_ok, trivial⟩ (by kernel_rfl) th_ok mix_ok Go.Proofs.Try.func32 (by kernel_rfl) ?_
  intro x hw hp Λ hC
  have h0 := h x.1 hw  
  exact Eq.mpr (by kernel_rfl) h0
theorem cValLine_ok : ConOK Go.Proofs.Try.prog 32 cValLine := by
  refine cValLine_law ?_
  intro l hw
  unfold cValLine_0
  obtain ⟨op, t, a, b, ⟨⟩⟩ := l
  repeat' split
  all_goals (simp_all [validLine, argErr, T.eqB, T.dflt])
  rintro rfl
  by_cases h1 : t = 0 <;> by_cases h2 : a = 0 <;> by_cases h3 : b = 0 <;> simp_all
abbrev cValP : Con := { A := (.cons (.sl tL) .nil), R := (.cons .int .nil), pre := fun x => True, F := fun x => (validP x.1, ()) }
def cValP_0 (Λ1 : Int → Prop) (p : (List Lin)) (y0 : Int) : Prop :=
  if (decide ((List.length p : Int) > (8 : Int))) = true then ((3 : Int) = y0 ∧ True) else Λ1 (0 : Int)
def cValP_1 (Λ1 : Int → Prop) (p : (List Lin)) (y0 : Int)  (t11_1 : Int) : Prop :=
  if (decide (t11_1 < (List.length p : Int))) = true then (idx t11_1 (List.length p : Int) ∧ (True ∧ (if ((argErr (validLine (List.getD p (Int.toNat t11_1) tL.dflt))) != (0 : Int)) = true then ((argErr (validLine (List.getD p (Int.toNat t11_1) tL.dflt))) = y0 ∧ True) else (inI (t11_1 + (1 : Int)) ∧ Λ1 (t11_1 + (1 : Int)))))) else ((0 : Int) = y0 ∧ True)
theorem cValP_law (h : ∀ (p : (List Lin)), cValP.A.wf (p, ()) → ∀ (Λ1 : Int → Prop), (∀ (t11_1 : Int), cValP_1 Λ1 p (validP p) t11_1 → Λ1 t11_1) → cValP_0 Λ1 p (validP p)) : ConOK Go.Proofs.Try.prog 33 cValP := by
  refine lawL (Γ := [(32, cValLine)]) (Θ := Th) (n := 21) [([1, 1, 0, 1, 0], ⟨[(9, false), (10, true), (11, true)], []⟩)] ⟨cValLine_ok, trivial⟩ (by kernel_rfl) th_ok mix_ok Go.Proofs.Try.func33 (by kernel_rfl) ?_
  intro x hw hp Λ hC
  have h0 := h x.1 hw (fun t11_1 => Λ [1, 1, 0, 1, 0] ([(9, .d false (.sl tL) x.1), (10, .d true .int (List.length x.1 : Int)), (11, .d true .int t11_1)], [])) (fun t11_1 hb => hC [1, 1, 0, 1, 0] ([(9, .d false (.sl tL) x.1), (10, .d true .int (List.length x.1 : Int)), (11, .d true .int t11_1)], []) (Eq.mpr (by kernel_rfl) hb))
  exact Eq.mpr (by kernel_rfl) h0
theorem cValP_ok : ConOK Go.Proofs.Try.prog 33 cValP := by
  refine cValP_law ?_
  intro p hw Λ1 h1
  unfold cValP_0
  simp only [decide_eq_true_eq]
  split
  · refine ⟨?_, trivial⟩
    unfold validP
    rw [if_pos (by omega)]
  · rename_i h8
    refine upto (n := p.length) (Q := fun i => (p.take i).all validLine = true → Λ1 i) ?_ ?_ 0 (Nat.zero_le _) rfl
    · intro ha
      rw [List.take_length] at ha
      apply h1; unfold cValP_1; rw [if_neg (by simp)]
      refine ⟨?_, trivial⟩
      unfold validP
      rw [if_neg (by omega), ha]; rfl
    · intro i hi ih ha
      apply h1; unfold cValP_1; rw [if_pos (by simpa using hi)]
      refine ⟨idx_nat hi, trivial, ?_⟩
      rw [Int.toNat_natCast]
      cases hv : validLine (List.getD p i tL.dflt)
      · rw [if_pos (by rfl)]
        refine ⟨?_, trivial⟩
        unfold validP
        rw [if_neg (by omega), all_false_at (p := validLine) tL.dflt hi hv]
      · rw [if_neg (by simp [argErr])]
        exact ⟨inI_succ hi (by omega), ih (all_take_next tL.dflt hi ha hv)⟩
abbrev cIndexI : Con := { A := (.cons (.sl .int) (.cons (.fn (.cons .int .nil) (.cons .bool .nil)) .nil)), R := (.cons .int .nil), pre := fun x => ∀ r, inI r → x.2.1.1 (r, ()), F := fun x => (idxF (fun r => (x.2.1.2 (r, ())).1) x.1, ()) }
def cIndexI_0 (Λ1 : Int → Prop) (s : (List Int)) (f : (T.fn (.cons .int .nil) (.cons .bool .nil)).den) (y0 : Int) : Prop :=
  Λ1 (0 : Int)
def cIndexI_1 (Λ1 : Int → Prop) (s : (List Int)) (f : (T.fn (.cons .int .nil) (.cons .bool .nil)).den) (y0 : Int)  (t8_1 : Int) : Prop :=
  if (decide (t8_1 < (List.length s : Int))) = true then (idx t8_1 (List.length s : Int) ∧ (f.1 ((List.getD s (Int.toNat t8_1) 0), ()) ∧ (if ((f.2 ((List.getD s (Int.toNat t8_1) 0), ())).1) = true then (t8_1 = y0 ∧ True) else (inI (t8_1 + (1 : Int)) ∧ Λ1 (t8_1 + (1 : Int)))))) else ((-1 : Int) = y0 ∧ True)
theorem cIndexI_law (h : ∀ (s : (List Int)) (f : (T.fn (.cons .int .nil) (.cons .bool .nil)).den), cIndexI.A.wf (s, f, ()) → (∀ r, inI r → f.1 (r, ())) → ∀ (Λ1 : Int → Prop), (∀ (t8_1 : Int), cIndexI_1 Λ1 s f (idxF (fun r => (f.2 (r, ())).1) s) t8_1 → Λ1 t8_1) → cIndexI_0 Λ1 s f (idxF (fun r => (f.2 (r, ())).1) s)) : ConOK Go.Proofs.Try.prog 38 cIndexI := by
  refine lawL (Γ := []) (Θ := Th) (n := 19) [([1, 0, 1, 0], ⟨[(0, false), (1, false), (7, true), (8, true)], []⟩)] trivial (by kernel_rfl) th_ok mix_ok Go.Proofs.Try.func38 (by kernel_rfl) ?_
  intro x hw hp Λ hC
  have h0 := h x.1 x.2.1 hw hp (fun t8_1 => Λ [1, 0, 1, 0] ([(0, .d false (.sl .int) x.1), (1, .d false (.fn (.cons .int .nil) (.cons .bool .nil)) x.2.1), (7, .d true .int (List.length x.1 : Int)), (8, .d true .int t8_1)], [])) (fun t8_1 hb => hC [1, 0, 1, 0] ([(0, .d false (.sl .int) x.1), (1, .d false (.fn (.cons .int .nil) (.cons .bool .nil)) x.2.1), (7, .d true .int (List.length x.1 : Int)), (8, .d true .int t8_1)], []) (Eq.mpr (by kernel_rfl) hb))
  exact Eq.mpr (by kernel_rfl) h0
theorem cIndexI_ok : ConOK Go.Proofs.Try.prog 38 cIndexI := by
  refine cIndexI_law ?_
  intro s f hw hp Λ1 h1
  unfold cIndexI_0
  refine upto (n := s.length) (Q := fun i => (s.take i).any (fun r => (f.2 (r, ())).1) = false → Λ1 i) ?_ ?_ 0 (Nat.zero_le _) rfl
  · intro ha
    rw [List.take_length] at ha
    apply h1; unfold cIndexI_1; rw [if_neg (by simp), idxF_none ha]
    exact ⟨rfl, trivial⟩
  · intro i hi ih ha
    apply h1; unfold cIndexI_1; rw [if_pos (by simpa using hi), Int.toNat_natCast]
    refine ⟨idx_nat hi, hp _ (hw.1.2 _ (mem_getD hi)), ?_⟩
    cases hv : (f.2 (List.getD s i 0, ())).1
    · rw [if_neg (by simp)]
      exact ⟨inI_succ hi hw.1.1, ih (any_take_next (p := fun r => (f.2 (r, ())).1) 0 hi ha hv)⟩
    · rw [if_pos (by rfl), idxF_at (p := fun r => (f.2 (r, ())).1) 0 hi ha hv]
      exact ⟨rfl, trivial⟩
abbrev cContI : Con := { A := (.cons (.sl .int) (.cons (.fn (.cons .int .nil) (.cons .bool .nil)) .nil)), R := (.cons .bool .nil), pre := fun x => ∀ r, inI r → x.2.1.1 (r, ()), F := fun x => (x.1.any (fun r => (x.2.1.2 (r, ())).1), ()) }
def cContI_0  (s : (List Int)) (f : (T.fn (.cons .int .nil) (.cons .bool .nil)).den) (y0 : Bool) : Prop :=
  (∀ r, inI r → f.1 (r, ())) ∧ ((decide ((idxF (fun r => (f.2 (r, ())).1) s) ≥ (0 : Int))) = y0 ∧ True)
theorem cContI_law (h : ∀ (s : (List Int)) (f : (T.fn (.cons .int .nil) (.cons .bool .nil)).den), cContI.A.wf (s, f, ()) → (∀ r, inI r → f.1 (r, ())) → cContI_0  s f (s.any (fun r => (f.2 (r, ())).1))) : ConOK Go.Proofs.Try.prog 19 cContI := by
  refine lawL (Γ := [(38, cIndexI)]) (Θ := Th) (n := 9) [] ⟨cIndexI_ok, trivial⟩ (by kernel_rfl) th_ok mix_ok Go.Proofs.Try.func19 (by kernel_rfl) ?_
  intro x hw hp Λ hC
  have h0 := h x.1 x.2.1 hw hp  
  exact Eq.mpr (by kernel_rfl) h0
theorem cContI_ok : ConOK Go.Proofs.Try.prog 19 cContI := by
  refine cContI_law ?_
  intro s f hw hp
  unfold cContI_0
  exact ⟨hp, idxF_any _ _, trivial⟩
abbrev cNotVal1 : Con := { A := (.cons .int .nil), R := (.cons .bool .nil), pre := fun x => True, F := fun x => (!(isVal x.1), ()) }
def cNotVal1_0  (n : Int) (y0 : Bool) : Prop :=
  True ∧ ((!(within n (-999 : Int) (999 : Int))) = y0 ∧ True)
theorem cNotVal1_law (h : ∀ (n : Int), cNotVal1.A.wf (n, ()) → cNotVal1_0  n (!(isVal n))) : ConOK Go.Proofs.Try.prog 47 cNotVal1 := by
  refine lawL (Γ := [(21, cWithin1)]) (Θ := Th) (n := 6) [] ⟨cWithin1_ok, trivial⟩ (by kernel_rfl) th_ok mix_ok Go.Proofs.Try.func47 (by kernel_rfl) ?_
  intro x hw hp Λ hC
  have h0 := h x.1 hw  
  exact Eq.mpr (by kernel_rfl) h0
theorem cNotVal1_ok : ConOK Go.Proofs.Try.prog 47 cNotVal1 := by
  refine cNotVal1_law ?_
  intro n hw
  unfold cNotVal1_0
  exact ⟨trivial, rfl, trivial⟩
abbrev cValS : Con := { A := (.cons (.sl .int) .nil), R := (.cons .int .nil), pre := fun x => True, F := fun x => (argErr (validS x.1), ()) }
def cValS_0  (in_ : (List Int)) (y0 : Int) : Prop :=
  if ((List.length in_ : Int) != (4 : Int)) = true then (true = true ∧ ((1 : Int) = y0 ∧ True)) else ((∀ r, inI r → (fun (xx : (Int × Unit)) => True, fun (xx : (Int × Unit)) => (!(isVal xx.1), ())).1 (r, ())) ∧ (True ∧ (if (bif false then true else (in_.any (fun r => ((fun (xx : (Int × Unit)) => True, fun (xx : (Int × Unit)) => (!(isVal xx.1), ())).2 (r, ())).1))) = true then ((1 : Int) = y0 ∧ True) else ((0 : Int) = y0 ∧ True))))
theorem cValS_law (h : ∀ (in_ : (List Int)), cValS.A.wf (in_, ()) → cValS_0  in_ (argErr (validS in_))) : ConOK Go.Proofs.Try.prog 37 cValS := by
  refine lawL (Γ := [(19, cContI), (47, cNotVal1)]) (Θ := Th) (n := 10) [] ⟨cContI_ok, cNotVal1_ok, trivial⟩ (by kernel_rfl) th_ok mix_ok Go.Proofs.Try.func37 (by kernel_rfl) ?_
  intro x hw hp Λ hC
  have h0 := h x.1 hw  
  exact Eq.mpr (by kernel_rfl) h0
theorem cValS_ok : ConOK Go.Proofs.Try.prog 37 cValS := by
  refine cValS_law ?_
  intro in_ hw
  unfold cValS_0
  unfold validS
  simp only [bne_iff_ne, ne_eq]
  split
  · rename_i h4
    rw [show decide (in_.length = 4) = false by simp; omega]
    exact ⟨trivial, rfl, trivial⟩
  · rename_i h4
    rw [show decide (in_.length = 4) = true by simp; omega]
    refine ⟨fun _ _ => trivial, trivial, ?_⟩
    show if (in_.any fun r => !isVal r) = true then _ else _
    rw [any_not_all]
    cases in_.all isVal <;> exact ⟨rfl, trivial⟩
abbrev cCheck1 : Con := { A := (.cons (.sl tL) (.cons (.sl .int) .nil)), R := (.cons .int .nil), pre := fun x => True, F := fun x => ((if validP x.1 = 0 then argErr (validS x.2.1) else validP x.1), ()) }
def cCheck1_0  (p : (List Lin)) (in_ : (List Int)) (y0 : Int) : Prop :=
  True ∧ (if ((validP p) != (0 : Int)) = true then ((validP p) = y0 ∧ True) else (True ∧ ((argErr (validS in_)) = y0 ∧ True)))
theorem cCheck1_law (h : ∀ (p : (List Lin)) (in_ : (List Int)), cCheck1.A.wf (p, in_, ()) → cCheck1_0  p in_ (if validP p = 0 then argErr (validS in_) else validP p)) : ConOK Go.Proofs.Try.prog 17 cCheck1 := by
  refine lawL (Γ := [(33, cValP), (37, cValS)]) (Θ := Th) (n := 13) [] ⟨cValP_ok, cValS_ok, trivial⟩ (by kernel_rfl) th_ok mix_ok Go.Proofs.Try.func17 (by kernel_rfl) ?_
  intro x hw hp Λ hC
  have h0 := h x.1 x.2.1 hw  
  exact Eq.mpr (by kernel_rfl) h0
theorem cCheck1_ok : ConOK Go.Proofs.Try.prog 17 cCheck1 := by
  refine cCheck1_law ?_
  intro p in_ hw
  unfold cCheck1_0
  split <;> simp_all
/-! The reference's -/
abbrev cLongL : Con := { A := (.cons (.sl tL) .nil), R := (.cons .bool .nil), pre := fun x => True, F := fun x => (decide (100 < x.1.length), ()) }
def cLongL_0  (p : (List Lin)) (y0 : Bool) : Prop :=
  (decide ((List.length p : Int) > (100 : Int))) = y0 ∧ True
theorem cLongL_law (h : ∀ (p : (List Lin)), cLongL.A.wf (p, ()) → cLongL_0  p (decide (100 < p.length))) : ConOK Go.Proofs.Try.prog 6 cLongL := by
  refine lawL (Γ := []) (Θ := Th) (n := 6) [] trivial (by kernel_rfl) th_ok mix_ok Go.Proofs.Try.func6 (by kernel_rfl) ?_
  intro x hw hp Λ hC
  have h0 := h x.1 hw  
  exact Eq.mpr (by kernel_rfl) h0
theorem cLongL_ok : ConOK Go.Proofs.Try.prog 6 cLongL := by
  refine cLongL_law ?_
  intro p hw
  unfold cLongL_0
  exact ⟨by simp; omega, trivial⟩
end Go.Tk
