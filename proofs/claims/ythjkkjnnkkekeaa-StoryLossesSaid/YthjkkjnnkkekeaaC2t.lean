import Derived.Test.YthjkkjnnkkekeaaC2
import Derived.Test.YthjkkjnnkkekeaaP2t
set_option linter.unusedSimpArgs false
set_option linter.unusedVariables false
namespace Go.Tk
open Go Go.RowKit

abbrev cIsTest : Con := { A := (.cons tTs .nil), R := (.cons .bool .nil), pre := fun x => True, F := fun x => (isTst x.1, ()) }
def cIsTest_0  (t : Tst) (y0 : Bool) : Prop :=
  True ∧ (if (validS t.1) = true then (True ∧ (True ∧ (if (bif true then (isReg t.2.1) else false) = true then (True ∧ (True ∧ ((bif true then (isVal t.2.2.1) else false) = y0 ∧ True))) else (false = false ∧ (false = y0 ∧ True))))) else (false = false ∧ (false = false ∧ (false = y0 ∧ True))))
theorem cIsTest_law (h : ∀ (t : Tst), cIsTest.A.wf (t, ()) → cIsTest_0  t (isTst t)) : ConOK Go.Proofs.Try.prog 120 cIsTest := by
  refine lawL (Γ := [(127, cIsReg2), (126, cIsState), (128, cIsVal2)]) (Θ := Th) (n := 16) [] ⟨cIsReg2_ok, cIsState_ok, cIsVal2_ok, trivial⟩ (by kernel_rfl) th_ok mix_ok Go.Proofs.Try.func120 (by kernel_rfl) ?_
  intro x hw hp Λ hC
  have h0 := h x.1 hw  
  exact Eq.mpr (by kernel_rfl) h0
theorem cIsTest_ok : ConOK Go.Proofs.Try.prog 120 cIsTest := by
  refine cIsTest_law ?_
  intro t hw
  unfold cIsTest_0
  refine ⟨trivial, ?_⟩
  unfold isTst
  cases validS t.1
  · simp
  · cases isReg t.2.1 <;> simp
abbrev cNotTest : Con := { A := (.cons tTs .nil), R := (.cons .bool .nil), pre := fun x => True, F := fun x => (!(isTst x.1), ()) }
def cNotTest_0  (t : Tst) (y0 : Bool) : Prop :=
  True ∧ ((!(isTst t)) = y0 ∧ True)
theorem cNotTest_law (h : ∀ (t : Tst), cNotTest.A.wf (t, ()) → cNotTest_0  t (!(isTst t))) : ConOK Go.Proofs.Try.prog 119 cNotTest := by
  refine lawL (Γ := [(120, cIsTest)]) (Θ := Th) (n := 6) [] ⟨cIsTest_ok, trivial⟩ (by kernel_rfl) th_ok mix_ok Go.Proofs.Try.func119 (by kernel_rfl) ?_
  intro x hw hp Λ hC
  have h0 := h x.1 hw  
  exact Eq.mpr (by kernel_rfl) h0
theorem cNotTest_ok : ConOK Go.Proofs.Try.prog 119 cNotTest := by
  refine cNotTest_law ?_
  intro t hw
  unfold cNotTest_0
  exact ⟨trivial, rfl, trivial⟩
abbrev cIndexT : Con := { A := (.cons (.sl tTs) (.cons (.fn (.cons tTs .nil) (.cons .bool .nil)) .nil)), R := (.cons .int .nil), pre := fun x => ∀ r', tTs.wf r' → x.2.1.1 (r', ()), F := fun x => (idxF (fun r' => (x.2.1.2 (r', ())).1) x.1, ()) }
def cIndexT_0 (Λ1 : Int → Prop) (s : (List Tst)) (f : (T.fn (.cons tTs .nil) (.cons .bool .nil)).den) (y0 : Int) : Prop :=
  Λ1 (0 : Int)
def cIndexT_1 (Λ1 : Int → Prop) (s : (List Tst)) (f : (T.fn (.cons tTs .nil) (.cons .bool .nil)).den) (y0 : Int)  (t8_1 : Int) : Prop :=
  if (decide (t8_1 < (List.length s : Int))) = true then (idx t8_1 (List.length s : Int) ∧ (f.1 ((List.getD s (Int.toNat t8_1) tTs.dflt), ()) ∧ (if ((f.2 ((List.getD s (Int.toNat t8_1) tTs.dflt), ())).1) = true then (t8_1 = y0 ∧ True) else (inI (t8_1 + (1 : Int)) ∧ Λ1 (t8_1 + (1 : Int)))))) else ((-1 : Int) = y0 ∧ True)
theorem cIndexT_law (h : ∀ (s : (List Tst)) (f : (T.fn (.cons tTs .nil) (.cons .bool .nil)).den), cIndexT.A.wf (s, f, ()) → (∀ r', tTs.wf r' → f.1 (r', ())) → ∀ (Λ1 : Int → Prop), (∀ (t8_1 : Int), cIndexT_1 Λ1 s f (idxF (fun r' => (f.2 (r', ())).1) s) t8_1 → Λ1 t8_1) → cIndexT_0 Λ1 s f (idxF (fun r' => (f.2 (r', ())).1) s)) : ConOK Go.Proofs.Try.prog 125 cIndexT := by
  refine lawL (Γ := []) (Θ := Th) (n := 19) [([1, 0, 1, 0], ⟨[(0, false), (1, false), (7, true), (8, true)], []⟩)] trivial (by kernel_rfl) th_ok mix_ok Go.Proofs.Try.func125 (by kernel_rfl) ?_
  intro x hw hp Λ hC
  have h0 := h x.1 x.2.1 hw hp (fun t8_1 => Λ [1, 0, 1, 0] ([(0, .d false (.sl tTs) x.1), (1, .d false (.fn (.cons tTs .nil) (.cons .bool .nil)) x.2.1), (7, .d true .int (List.length x.1 : Int)), (8, .d true .int t8_1)], [])) (fun t8_1 hb => hC [1, 0, 1, 0] ([(0, .d false (.sl tTs) x.1), (1, .d false (.fn (.cons tTs .nil) (.cons .bool .nil)) x.2.1), (7, .d true .int (List.length x.1 : Int)), (8, .d true .int t8_1)], []) (Eq.mpr (by kernel_rfl) hb))
  exact Eq.mpr (by kernel_rfl) h0
theorem cIndexT_ok : ConOK Go.Proofs.Try.prog 125 cIndexT := by
  refine cIndexT_law ?_
  intro s f hw hp Λ1 h1
  unfold cIndexT_0
  refine upto (n := s.length) (Q := fun i => (s.take i).any (fun r => (f.2 (r, ())).1) = false → Λ1 i) ?_ ?_ 0 (Nat.zero_le _) rfl
  · intro ha
    rw [List.take_length] at ha
    apply h1; unfold cIndexT_1; rw [if_neg (by simp), idxF_none ha]
    exact ⟨rfl, trivial⟩
  · intro i hi ih ha
    apply h1; unfold cIndexT_1; rw [if_pos (by simpa using hi), Int.toNat_natCast]
    refine ⟨idx_nat hi, hp _ (hw.1.2 _ (mem_getD hi)), ?_⟩
    cases hv : (f.2 (List.getD s i tTs.dflt, ())).1
    · rw [if_neg (by simp)]
      exact ⟨inI_succ hi hw.1.1, ih (any_take_next (p := fun r => (f.2 (r, ())).1) tTs.dflt hi ha hv)⟩
    · rw [if_pos (by rfl), idxF_at (p := fun r => (f.2 (r, ())).1) tTs.dflt hi ha hv]
      exact ⟨rfl, trivial⟩
abbrev cContT : Con := { A := (.cons (.sl tTs) (.cons (.fn (.cons tTs .nil) (.cons .bool .nil)) .nil)), R := (.cons .bool .nil), pre := fun x => ∀ r', tTs.wf r' → x.2.1.1 (r', ()), F := fun x => (x.1.any (fun r' => (x.2.1.2 (r', ())).1), ()) }
def cContT_0  (s : (List Tst)) (f : (T.fn (.cons tTs .nil) (.cons .bool .nil)).den) (y0 : Bool) : Prop :=
  (∀ r', tTs.wf r' → f.1 (r', ())) ∧ ((decide ((idxF (fun r' => (f.2 (r', ())).1) s) ≥ (0 : Int))) = y0 ∧ True)
theorem cContT_law (h : ∀ (s : (List Tst)) (f : (T.fn (.cons tTs .nil) (.cons .bool .nil)).den), cContT.A.wf (s, f, ()) → (∀ r', tTs.wf r' → f.1 (r', ())) → cContT_0  s f (s.any (fun r' => (f.2 (r', ())).1))) : ConOK Go.Proofs.Try.prog 118 cContT := by
  refine lawL (Γ := [(125, cIndexT)]) (Θ := Th) (n := 9) [] ⟨cIndexT_ok, trivial⟩ (by kernel_rfl) th_ok mix_ok Go.Proofs.Try.func118 (by kernel_rfl) ?_
  intro x hw hp Λ hC
  have h0 := h x.1 x.2.1 hw hp  
  exact Eq.mpr (by kernel_rfl) h0
theorem cContT_ok : ConOK Go.Proofs.Try.prog 118 cContT := by
  refine cContT_law ?_
  intro s f hw hp
  unfold cContT_0
  exact ⟨hp, idxF_any _ _, trivial⟩
abbrev cValT : Con := { A := (.cons (.sl tTs) .nil), R := (.cons .int .nil), pre := fun x => True, F := fun x => (validT x.1, ()) }
def cValT_0  (l : (List Tst)) (y0 : Int) : Prop :=
  if (decide ((List.length l : Int) > (8 : Int))) = true then ((3 : Int) = y0 ∧ True) else ((∀ r', tTs.wf r' → (fun (xx : (Tst × Unit)) => True, fun (xx : (Tst × Unit)) => (!(isTst xx.1), ())).1 (r', ())) ∧ (if (l.any (fun r' => ((fun (xx : (Tst × Unit)) => True, fun (xx : (Tst × Unit)) => (!(isTst xx.1), ())).2 (r', ())).1)) = true then ((1 : Int) = y0 ∧ True) else ((0 : Int) = y0 ∧ True)))
theorem cValT_law (h : ∀ (l : (List Tst)), cValT.A.wf (l, ()) → cValT_0  l (validT l)) : ConOK Go.Proofs.Try.prog 105 cValT := by
  refine lawL (Γ := [(118, cContT), (119, cNotTest)]) (Θ := Th) (n := 8) [] ⟨cContT_ok, cNotTest_ok, trivial⟩ (by kernel_rfl) th_ok mix_ok Go.Proofs.Try.func105 (by kernel_rfl) ?_
  intro x hw hp Λ hC
  have h0 := h x.1 hw  
  exact Eq.mpr (by kernel_rfl) h0
theorem cValT_ok : ConOK Go.Proofs.Try.prog 105 cValT := by
  refine cValT_law ?_
  intro l hw
  unfold cValT_0
  unfold validT
  simp only [decide_eq_true_eq]
  by_cases h : l.length > 8
  · rw [if_pos (by omega), if_pos h]; exact ⟨rfl, trivial⟩
  · rw [if_neg (by omega), if_neg h]
    refine ⟨fun _ _ => trivial, ?_⟩
    show if (l.any fun r => !isTst r) = true then _ else _
    rw [any_not_all]
    cases l.all isTst <;> exact ⟨rfl, trivial⟩
abbrev cTested : Con := { A := (.cons (.sl tTs) (.cons (.sl (.sl tL)) .nil)), R := (.cons .int .nil), pre := fun x => True, F := fun x => (errT x.2.1 x.1, ()) }
def cTested_0 (Λ1 : Int → Prop) (l : (List Tst)) (programs : (List (List Lin))) (y0 : Int) : Prop :=
  Λ1 (0 : Int)
def cTested_1 (Λ1 : Int → Prop) (l : (List Tst)) (programs : (List (List Lin))) (y0 : Int)  (t10_1 : Int) : Prop :=
  if (decide (t10_1 < (List.length programs : Int))) = true then (idx t10_1 (List.length programs : Int) ∧ (True ∧ (if ((validP (List.getD programs (Int.toNat t10_1) ([] : List Lin))) != (0 : Int)) = true then ((validP (List.getD programs (Int.toNat t10_1) ([] : List Lin))) = y0 ∧ True) else (inI (t10_1 + (1 : Int)) ∧ Λ1 (t10_1 + (1 : Int)))))) else (True ∧ ((validT l) = y0 ∧ True))
theorem cTested_law (h : ∀ (l : (List Tst)) (programs : (List (List Lin))), cTested.A.wf (l, programs, ()) → ∀ (Λ1 : Int → Prop), (∀ (t10_1 : Int), cTested_1 Λ1 l programs (errT programs l) t10_1 → Λ1 t10_1) → cTested_0 Λ1 l programs (errT programs l)) : ConOK Go.Proofs.Try.prog 89 cTested := by
  refine lawL (Γ := [(73, cValP), (105, cValT)]) (Θ := Th) (n := 22) [([1, 0, 1, 0], ⟨[(0, false), (8, false), (9, true), (10, true)], []⟩)] ⟨cValP_ok, cValT_ok, trivial⟩ (by kernel_rfl) th_ok mix_ok Go.Proofs.Try.func89 (by kernel_rfl) ?_
  intro x hw hp Λ hC
  have h0 := h x.1 x.2.1 hw (fun t10_1 => Λ [1, 0, 1, 0] ([(0, .d false (.sl tTs) x.1), (8, .d false (.sl (.sl tL)) x.2.1), (9, .d true .int (List.length x.2.1 : Int)), (10, .d true .int t10_1)], [])) (fun t10_1 hb => hC [1, 0, 1, 0] ([(0, .d false (.sl tTs) x.1), (8, .d false (.sl (.sl tL)) x.2.1), (9, .d true .int (List.length x.2.1 : Int)), (10, .d true .int t10_1)], []) (Eq.mpr (by kernel_rfl) hb))
  exact Eq.mpr (by kernel_rfl) h0
theorem cTested_ok : ConOK Go.Proofs.Try.prog 89 cTested := by
  refine cTested_law ?_
  intro l programs hw Λ1 h1
  unfold cTested_0
  have key : ∀ n i, i + n = programs.length → firstErr programs = firstErr (programs.drop i) → Λ1 i := by
    intro n
    induction n with
    | zero =>
      intro i hi e
      apply h1; unfold cTested_1
      rw [if_neg (by simp; omega)]
      rw [List.drop_eq_nil_of_le (by omega)] at e
      refine ⟨trivial, ?_, trivial⟩
      unfold errT
      rw [if_pos (by rw [e]; rfl)]
    | succ n ih =>
      intro i hi e
      have hl : i < programs.length := by omega
      apply h1; unfold cTested_1
      rw [if_pos (by simpa using hl), Int.toNat_natCast]
      have hd : programs.drop i = programs.getD i [] :: programs.drop (i + 1) := by
        rw [List.drop_eq_getElem_cons hl]; simp [List.getD_eq_getElem?_getD, hl]
      rw [hd, firstErr] at e
      refine ⟨idx_nat hl, trivial, ?_⟩
      by_cases g : validP (programs.getD i []) = 0
      · rw [if_pos g] at e
        rw [if_neg (by simpa using g)]
        exact ⟨inI_succ hl hw.2.1.1, ih (i + 1) (by omega) e⟩
      · rw [if_neg g] at e
        rw [if_pos (by simpa using g)]
        refine ⟨?_, trivial⟩
        unfold errT
        rw [e, if_neg g]
  exact key programs.length 0 (by omega) rfl
abbrev cEnd : Con := { A := (.cons (.sl tL) (.cons (.sl .int) (.cons .int .nil))), R := (.cons .int .nil), pre := fun x => validP x.1 = 0 ∧ validS x.2.1 = true ∧ 0 ≤ x.2.2.1 ∧ x.2.2.1 ≤ 3, F := fun x => (Rg (runS x.1 x.2.1) x.2.2.1, ()) }
def cEnd_0  (p : (List Lin)) (in_ : (List Int)) (out : Int) (y0 : Int) : Prop :=
  True ∧ (idx out (List.length ((if err1 p in_ = 0 then runS p in_ else [])) : Int) ∧ ((List.getD ((if err1 p in_ = 0 then runS p in_ else [])) (Int.toNat out) 0) = y0 ∧ True))
theorem cEnd_law (h : ∀ (p : (List Lin)) (in_ : (List Int)) (out : Int), cEnd.A.wf (p, in_, out, ()) → (validP p = 0 ∧ validS in_ = true ∧ 0 ≤ out ∧ out ≤ 3) → cEnd_0  p in_ out (Rg (runS p in_) out)) : ConOK Go.Proofs.Try.prog 108 cEnd := by
  refine lawL (Γ := [(123, cRun)]) (Θ := Th) (n := 19) [] ⟨cRun_ok, trivial⟩ (by kernel_rfl) th_ok mix_ok Go.Proofs.Try.func108 (by kernel_rfl) ?_
  intro x hw hp Λ hC
  have h0 := h x.1 x.2.1 x.2.2.1 hw hp  
  exact Eq.mpr (by kernel_rfl) h0
theorem cEnd_ok : ConOK Go.Proofs.Try.prog 108 cEnd := by
  refine cEnd_law ?_
  intro p in_ out hw hp
  unfold cEnd_0
  obtain ⟨p1, p2, p3, p4⟩ := hp
  have e : err1 p in_ = 0 := by unfold err1; rw [if_pos p1, p2]; rfl
  have l4 := validS_len (runS_ok (p := p) p2)
  rw [if_pos e]
  exact ⟨trivial, ⟨p3, by omega⟩, rfl, trivial⟩
abbrev cPassT : Con := { A := (.cons (.sl tL) (.cons tTs .nil)), R := (.cons .bool .nil), pre := fun x => validP x.1 = 0 ∧ isTst x.2.1 = true, F := fun x => (passT x.1 x.2.1, ()) }
def cPassT_0  (p : (List Lin)) (t : Tst) (y0 : Bool) : Prop :=
  (validP p = 0 ∧ validS t.1 = true ∧ 0 ≤ t.2.1 ∧ t.2.1 ≤ 3) ∧ (((Rg (runS p t.1) t.2.1) == t.2.2.1) = y0 ∧ True)
theorem cPassT_law (h : ∀ (p : (List Lin)) (t : Tst), cPassT.A.wf (p, t, ()) → (validP p = 0 ∧ isTst t = true) → cPassT_0  p t (passT p t)) : ConOK Go.Proofs.Try.prog 90 cPassT := by
  refine lawL (Γ := [(108, cEnd)]) (Θ := Th) (n := 14) [] ⟨cEnd_ok, trivial⟩ (by kernel_rfl) th_ok mix_ok Go.Proofs.Try.func90 (by kernel_rfl) ?_
  intro x hw hp Λ hC
  have h0 := h x.1 x.2.1 hw hp  
  exact Eq.mpr (by kernel_rfl) h0
theorem cPassT_ok : ConOK Go.Proofs.Try.prog 90 cPassT := by
  refine cPassT_law ?_
  intro p t hw hp
  unfold cPassT_0
  obtain ⟨p1, p2⟩ := hp
  obtain ⟨q1, q2, q3⟩ := isTst_iff.1 p2
  exact ⟨⟨p1, q1, q2.1, q2.2⟩, rfl, trivial⟩
theorem errT_cases (p : List Lin) (l : List Tst) : errT [p] l = if validP p = 0 then validT l else validP p := by
  unfold errT firstErr firstErr
  by_cases e : validP p = 0
  · rw [if_pos e, if_pos rfl, if_pos e]
  · rw [if_neg e, if_neg e]
theorem errT2_cases (p q : List Lin) (l : List Tst) : errT [p, q] l = if validP p = 0 then errT [q] l else validP p := by
  rw [errT_cases]
  unfold errT firstErr firstErr firstErr
  by_cases e : validP p = 0
  · rw [if_pos e, if_pos e]
    by_cases e2 : validP q = 0
    · rw [if_pos e2, if_pos rfl, if_pos e2]
    · rw [if_neg e2, if_neg e2]
  · rw [if_neg e, if_neg e, if_neg e]

abbrev cPasses : Con := { A := (.cons (.sl tL) (.cons tTs .nil)), R := (.cons .bool (.cons .int .nil)), pre := fun x => True, F := fun x => ((errT [x.1] [x.2.1] == 0 && passT x.1 x.2.1), errT [x.1] [x.2.1], ()) }
def cPasses_0  (p : (List Lin)) (t : Tst) (y0 : Bool) (y1 : Int) : Prop :=
  True ∧ (if ((errT [p] [t]) != (0 : Int)) = true then (false = y0 ∧ (errT [p] [t]) = y1 ∧ True) else ((validP p = 0 ∧ isTst t = true) ∧ ((passT p t) = y0 ∧ (0 : Int) = y1 ∧ True)))
theorem cPasses_law (h : ∀ (p : (List Lin)) (t : Tst), cPasses.A.wf (p, t, ()) → cPasses_0  p t (errT [p] [t] == 0 && passT p t) (errT [p] [t])) : ConOK Go.Proofs.Try.prog 52 cPasses := by
  refine lawL (Γ := [(90, cPassT), (89, cTested)]) (Θ := Th) (n := 18) [] ⟨cPassT_ok, cTested_ok, trivial⟩ (by kernel_rfl) th_ok mix_ok Go.Proofs.Try.func52 (by kernel_rfl) ?_
  intro x hw hp Λ hC
  have h0 := h x.1 x.2.1 hw  
  exact Eq.mpr (by kernel_rfl) h0
theorem cPasses_ok : ConOK Go.Proofs.Try.prog 52 cPasses := by
  refine cPasses_law ?_
  intro p t hw
  unfold cPasses_0
  refine ⟨trivial, ?_⟩
  by_cases h : errT [p] [t] = 0
  · rw [if_neg (by simp [h])]
    obtain ⟨h1, h2⟩ := errT_ok h
    exact ⟨⟨h1, (validT_ok h2).2 t (by simp)⟩, by simp [h], h.symm, trivial⟩
  · rw [if_pos (by simpa using h)]
    exact ⟨by simp [h], rfl, trivial⟩
abbrev cIsTestR : Con := { A := (.cons tTs .nil), R := (.cons .bool .nil), pre := fun x => True, F := fun x => (isTst x.1, ()) }
def cIsTestR_0  (t : Tst) (y0 : Bool) : Prop :=
  True ∧ (if ((argErr (validS t.1)) == (0 : Int)) = true then (True ∧ (True ∧ (if (bif true then (within t.2.1 (0 : Int) (3 : Int)) else false) = true then (True ∧ (True ∧ ((bif true then (within t.2.2.1 (-999 : Int) (999 : Int)) else false) = y0 ∧ True))) else (false = false ∧ (false = y0 ∧ True))))) else (false = false ∧ (false = false ∧ (false = y0 ∧ True))))
theorem cIsTestR_law (h : ∀ (t : Tst), cIsTestR.A.wf (t, ()) → cIsTestR_0  t (isTst t)) : ConOK Go.Proofs.Try.prog 121 cIsTestR := by
  refine lawL (Γ := [(129, cValSR), (130, cWithinR2)]) (Θ := Th) (n := 17) [] ⟨cValSR_ok, cWithinR2_ok, trivial⟩ (by kernel_rfl) th_ok mix_ok Go.Proofs.Try.func121 (by kernel_rfl) ?_
  intro x hw hp Λ hC
  have h0 := h x.1 hw  
  exact Eq.mpr (by kernel_rfl) h0
theorem cIsTestR_ok : ConOK Go.Proofs.Try.prog 121 cIsTestR := by
  refine cIsTestR_law ?_
  intro t hw
  unfold cIsTestR_0
  unfold isTst isReg isVal
  cases h : validS t.1
  · simp [argErr]
  · cases h1 : within t.2.1 0 3 <;> simp [argErr, h1]
abbrev cValTR : Con := { A := (.cons (.sl tTs) .nil), R := (.cons .int .nil), pre := fun x => True, F := fun x => (validT x.1, ()) }
def cValTR_0 (Λ1 : Int → Prop) (l : (List Tst)) (y0 : Int) : Prop :=
  if (decide ((List.length l : Int) > (8 : Int))) = true then ((3 : Int) = y0 ∧ True) else Λ1 (0 : Int)
def cValTR_1 (Λ1 : Int → Prop) (l : (List Tst)) (y0 : Int)  (i_1 : Int) : Prop :=
  if (decide (i_1 < (List.length l : Int))) = true then (idx i_1 (List.length l : Int) ∧ (True ∧ (if (!(isTst (List.getD l (Int.toNat i_1) tTs.dflt))) = true then ((1 : Int) = y0 ∧ True) else (inI (i_1 + (1 : Int)) ∧ Λ1 (i_1 + (1 : Int)))))) else ((0 : Int) = y0 ∧ True)
theorem cValTR_law (h : ∀ (l : (List Tst)), cValTR.A.wf (l, ()) → ∀ (Λ1 : Int → Prop), (∀ (i_1 : Int), cValTR_1 Λ1 l (validT l) i_1 → Λ1 i_1) → cValTR_0 Λ1 l (validT l)) : ConOK Go.Proofs.Try.prog 106 cValTR := by
  refine lawL (Γ := [(121, cIsTestR)]) (Θ := Th) (n := 19) [([1, 1, 0, 1, 0], ⟨[(0, false), (3, true)], []⟩)] ⟨cIsTestR_ok, trivial⟩ (by kernel_rfl) th_ok mix_ok Go.Proofs.Try.func106 (by kernel_rfl) ?_
  intro x hw hp Λ hC
  have h0 := h x.1 hw (fun i_1 => Λ [1, 1, 0, 1, 0] ([(0, .d false (.sl tTs) x.1), (3, .d true .int i_1)], [])) (fun i_1 hb => hC [1, 1, 0, 1, 0] ([(0, .d false (.sl tTs) x.1), (3, .d true .int i_1)], []) (Eq.mpr (by kernel_rfl) hb))
  exact Eq.mpr (by kernel_rfl) h0
theorem cValTR_ok : ConOK Go.Proofs.Try.prog 106 cValTR := by
  refine cValTR_law ?_
  intro l hw Λ1 h1
  unfold cValTR_0
  unfold validT
  simp only [decide_eq_true_eq]
  by_cases h : l.length > 8
  · rw [if_pos (by omega), if_pos h]; exact ⟨rfl, trivial⟩
  · rw [if_neg (by omega)]
    refine upto (n := l.length) (Q := fun i => (l.take i).all isTst = true → Λ1 i) ?_ ?_ 0 (Nat.zero_le _) rfl
    · intro ha
      rw [List.take_length] at ha
      apply h1; unfold cValTR_1; rw [if_neg (by simp)]
      unfold validT
      rw [if_neg h, ha]
      exact ⟨rfl, trivial⟩
    · intro i hi ih ha
      apply h1; unfold cValTR_1; rw [if_pos (by simpa using hi), Int.toNat_natCast]
      refine ⟨idx_nat hi, trivial, ?_⟩
      cases hv : isTst (List.getD l i tTs.dflt)
      · rw [if_pos (by rfl)]
        unfold validT
        rw [if_neg h, all_false_at (p := isTst) tTs.dflt hi hv]
        exact ⟨rfl, trivial⟩
      · rw [if_neg (by simp)]
        exact ⟨inI_succ hi (by omega), ih (all_take_next tTs.dflt hi ha hv)⟩
abbrev cTestedR : Con := { A := (.cons (.sl tL) (.cons (.sl tTs) .nil)), R := (.cons .int .nil), pre := fun x => True, F := fun x => (errT [x.1] x.2.1, ()) }
def cTestedR_0  (p : (List Lin)) (l : (List Tst)) (y0 : Int) : Prop :=
  True ∧ (if ((validP p) != (0 : Int)) = true then ((validP p) = y0 ∧ True) else (True ∧ ((validT l) = y0 ∧ True)))
theorem cTestedR_law (h : ∀ (p : (List Lin)) (l : (List Tst)), cTestedR.A.wf (p, l, ()) → cTestedR_0  p l (errT [p] l)) : ConOK Go.Proofs.Try.prog 131 cTestedR := by
  refine lawL (Γ := [(77, cValPR), (106, cValTR)]) (Θ := Th) (n := 13) [] ⟨cValPR_ok, cValTR_ok, trivial⟩ (by kernel_rfl) th_ok mix_ok Go.Proofs.Try.func131 (by kernel_rfl) ?_
  intro x hw hp Λ hC
  have h0 := h x.1 x.2.1 hw  
  exact Eq.mpr (by kernel_rfl) h0
theorem cTestedR_ok : ConOK Go.Proofs.Try.prog 131 cTestedR := by
  refine cTestedR_law ?_
  intro p l hw
  unfold cTestedR_0
  rw [errT_cases]
  refine ⟨trivial, ?_⟩
  by_cases e : validP p = 0
  · rw [if_neg (by simp [e]), if_pos e]; exact ⟨trivial, rfl, trivial⟩
  · rw [if_pos (by simpa using e), if_neg e]; exact ⟨rfl, trivial⟩
abbrev cMade : Con := { A := (.cons (.sl tL) (.cons (.sl .int) (.cons .int .nil))), R := (.cons .int .nil), pre := fun x => validP x.1 = 0 ∧ validS x.2.1 = true ∧ 0 ≤ x.2.2.1 ∧ x.2.2.1 ≤ 3, F := fun x => (Rg (runS x.1 x.2.1) x.2.2.1, ()) }
def cMade_0  (p : (List Lin)) (in_ : (List Int)) (out : Int) (y0 : Int) : Prop :=
  True ∧ (idx out (List.length ((if err1 p in_ = 0 then runS p in_ else [])) : Int) ∧ ((List.getD ((if err1 p in_ = 0 then runS p in_ else [])) (Int.toNat out) 0) = y0 ∧ True))
theorem cMade_law (h : ∀ (p : (List Lin)) (in_ : (List Int)) (out : Int), cMade.A.wf (p, in_, out, ()) → (validP p = 0 ∧ validS in_ = true ∧ 0 ≤ out ∧ out ≤ 3) → cMade_0  p in_ out (Rg (runS p in_) out)) : ConOK Go.Proofs.Try.prog 132 cMade := by
  refine lawL (Γ := [(140, cRunR)]) (Θ := Th) (n := 19) [] ⟨cRunR_ok, trivial⟩ (by kernel_rfl) th_ok mix_ok Go.Proofs.Try.func132 (by kernel_rfl) ?_
  intro x hw hp Λ hC
  have h0 := h x.1 x.2.1 x.2.2.1 hw hp  
  exact Eq.mpr (by kernel_rfl) h0
theorem cMade_ok : ConOK Go.Proofs.Try.prog 132 cMade := by
  refine cMade_law ?_
  intro p in_ out hw hp
  unfold cMade_0
  obtain ⟨p1, p2, p3, p4⟩ := hp
  have e : err1 p in_ = 0 := by unfold err1; rw [if_pos p1, p2]; rfl
  have l4 := validS_len (runS_ok (p := p) p2)
  rw [if_pos e]
  exact ⟨trivial, ⟨p3, by omega⟩, rfl, trivial⟩
abbrev cPassesR : Con := { A := (.cons (.sl tL) (.cons tTs .nil)), R := (.cons .bool (.cons .int .nil)), pre := fun x => True, F := fun x => ((errT [x.1] [x.2.1] == 0 && passT x.1 x.2.1), errT [x.1] [x.2.1], ()) }
def cPassesR_0  (p : (List Lin)) (t : Tst) (y0 : Bool) (y1 : Int) : Prop :=
  True ∧ (if ((errT [p] [t]) != (0 : Int)) = true then (false = y0 ∧ (errT [p] [t]) = y1 ∧ True) else ((validP p = 0 ∧ validS t.1 = true ∧ 0 ≤ t.2.1 ∧ t.2.1 ≤ 3) ∧ (((Rg (runS p t.1) t.2.1) == t.2.2.1) = y0 ∧ (0 : Int) = y1 ∧ True)))
theorem cPassesR_law (h : ∀ (p : (List Lin)) (t : Tst), cPassesR.A.wf (p, t, ()) → cPassesR_0  p t (errT [p] [t] == 0 && passT p t) (errT [p] [t])) : ConOK Go.Proofs.Try.prog 122 cPassesR := by
  refine lawL (Γ := [(132, cMade), (131, cTestedR)]) (Θ := Th) (n := 23) [] ⟨cMade_ok, cTestedR_ok, trivial⟩ (by kernel_rfl) th_ok mix_ok Go.Proofs.Try.func122 (by kernel_rfl) ?_
  intro x hw hp Λ hC
  have h0 := h x.1 x.2.1 hw  
  exact Eq.mpr (by kernel_rfl) h0
theorem cPassesR_ok : ConOK Go.Proofs.Try.prog 122 cPassesR := by
  refine cPassesR_law ?_
  intro p t hw
  unfold cPassesR_0
  refine ⟨trivial, ?_⟩
  by_cases h : errT [p] [t] = 0
  · rw [if_neg (by simp [h])]
    obtain ⟨h1, h2⟩ := errT_ok h
    obtain ⟨q1, q2, q3⟩ := isTst_iff.1 ((validT_ok h2).2 t (by simp))
    exact ⟨⟨h1, q1, q2.1, q2.2⟩, by simp [h, passT, endT], h.symm, trivial⟩
  · rw [if_pos (by simpa using h)]
    exact ⟨by simp [h], rfl, trivial⟩
end Go.Tk
