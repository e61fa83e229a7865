import Derived.Test.YtblegpocdjoihaaL6b
import Derived.Test.YtblegpocdjoihaaP6e
set_option linter.unusedSimpArgs false
set_option linter.unusedVariables false
set_option linter.unnecessarySimpa false
namespace Go.Tk
open Go Go.RowKit

abbrev cCloneI : Con := { A := (.cons (.sl .int) .nil), R := (.cons (.osl .int) .nil), pre := fun x => x.1.length ≤ 1000000, F := fun x => (x.1, ()) }
def cCloneI_0  (s : (List Int)) (y0 : (List Int)) : Prop :=
  (s = [] → ([] : List Int) = y0) ∧ (True → (List.length ([] : List Int) + List.length s ≤ 4294967296 ∧ (([] : List Int) ++ s) = y0))
theorem cCloneI_law (h : ∀ (s : (List Int)), cCloneI.A.wf (s, ()) → (s.length ≤ 1000000) → cCloneI_0  s s) : ConOK Go.Proofs.Try.prog 99 cCloneI := by
  refine lawL (Γ := []) (Θ := Th) (n := 8) [] trivial (by kernel_rfl) th_ok mix_ok Go.Proofs.Try.func99 (by kernel_rfl) ?_
  intro x hw hp Λ hC
  have h0 := h x.1 hw hp  
  exact Eq.mpr (by kernel_rfl) h0
theorem cCloneI_ok : ConOK Go.Proofs.Try.prog 99 cCloneI := by
  refine cCloneI_law ?_
  intro s hw hp
  unfold cCloneI_0
  exact ⟨fun h => h.symm, fun _ => ⟨by simp only [List.length_nil]; omega, by simp⟩⟩
abbrev cBefore1 : Con := { A := (.cons (.sl tL) (.cons (.sl .int) (.cons .int .nil))), R := (.cons (.sl .int) (.cons .bool (.cons .int .nil))), pre := fun x => True, F := fun x => ((if err1 x.1 x.2.1 = 0 then befS x.1 x.2.1 x.2.2.1 else []), (err1 x.1 x.2.1 == 0 && wasS x.1 x.2.1 x.2.2.1), befE x.1 x.2.1 x.2.2.1, ()) }
def cBefore1_0 (Λ1 : Int → Prop) (p : (List Lin)) (in_ : (List Int)) (line : Int) (y0 : (List Int)) (y1 : Bool) (y2 : Int) : Prop :=
  True ∧ (if (((if validP p = 0 then argErr (validS in_) else validP p)) != (0 : Int)) = true then (([] : List Int) = y0 ∧ false = y1 ∧ ((if validP p = 0 then argErr (validS in_) else validP p)) = y2 ∧ True) else (inI ((List.length p : Int) - (1 : Int)) ∧ (True ∧ (if (!(within line (0 : Int) ((List.length p : Int) - (1 : Int)))) = true then (([] : List Int) = y0 ∧ false = y1 ∧ (4 : Int) = y2 ∧ True) else ((validP p = 0 ∧ validS in_ = true ∧ ∀ i', (fun (xx : (Int × Unit)) => True, fun (xx : (Int × Unit)) => (0, false, ())).1 (i', ())) ∧ Λ1 (0 : Int))))))
def cBefore1_1 (Λ1 : Int → Prop) (p : (List Lin)) (in_ : (List Int)) (line : Int) (y0 : (List Int)) (y1 : Bool) (y2 : Int)  (t34_1 : Int) : Prop :=
  if (decide (t34_1 < (List.length (visits p (frcOf (fun (xx : (Int × Unit)) => True, fun (xx : (Int × Unit)) => (0, false, ())).2) in_) : Int))) = true then (idx t34_1 (List.length (visits p (frcOf (fun (xx : (Int × Unit)) => True, fun (xx : (Int × Unit)) => (0, false, ())).2) in_) : Int) ∧ (if ((List.getD (visits p (frcOf (fun (xx : (Int × Unit)) => True, fun (xx : (Int × Unit)) => (0, false, ())).2) in_) (Int.toNat t34_1) tVis.dflt).1 == line) = true then (True ∧ (((List.getD (visits p (frcOf (fun (xx : (Int × Unit)) => True, fun (xx : (Int × Unit)) => (0, false, ())).2) in_) (Int.toNat t34_1) tVis.dflt).2.1).length ≤ 1000000 ∧ ((((List.getD (visits p (frcOf (fun (xx : (Int × Unit)) => True, fun (xx : (Int × Unit)) => (0, false, ())).2) in_) (Int.toNat t34_1) tVis.dflt).2.1)) = y0 ∧ true = y1 ∧ (0 : Int) = y2 ∧ True))) else (inI (t34_1 + (1 : Int)) ∧ Λ1 (t34_1 + (1 : Int))))) else (([] : List Int) = y0 ∧ false = y1 ∧ (0 : Int) = y2 ∧ True)
theorem cBefore1_law (h : ∀ (p : (List Lin)) (in_ : (List Int)) (line : Int), cBefore1.A.wf (p, in_, line, ()) → ∀ (Λ1 : Int → Prop), (∀ (t34_1 : Int), cBefore1_1 Λ1 p in_ line (if err1 p in_ = 0 then befS p in_ line else []) (err1 p in_ == 0 && wasS p in_ line) (befE p in_ line) t34_1 → Λ1 t34_1) → cBefore1_0 Λ1 p in_ line (if err1 p in_ = 0 then befS p in_ line else []) (err1 p in_ == 0 && wasS p in_ line) (befE p in_ line)) : ConOK Go.Proofs.Try.prog 52 cBefore1 := by
  refine lawL (Γ := [(95, cCheck1), (99, cCloneI), (97, cFree), (96, cRun0), (98, cWithin1)]) (Θ := Th) (n := 46) [([1, 1, 1, 1, 0, 1, 0], ⟨[(2, false), (32, true), (33, true), (34, true)], [(29, true)]⟩)] ⟨cCheck1_ok, cCloneI_ok, cFree_ok, cRun0_ok, cWithin1_ok, trivial⟩ (by kernel_rfl) th_ok mix_ok Go.Proofs.Try.func52 (by kernel_rfl) ?_
  intro x hw hp Λ hC
  have h0 := h x.1 x.2.1 x.2.2.1 hw (fun t34_1 => Λ [1, 1, 1, 1, 0, 1, 0] ([(2, .d false .int x.2.2.1), (32, .own 29 0), (33, .d true .int (List.length (visits x.1 (frcOf (fun (xx : (Int × Unit)) => True, fun (xx : (Int × Unit)) => (0, false, ())).2) x.2.1) : Int)), (34, .d true .int t34_1)], [(29, .sl true tVis (visits x.1 (frcOf (fun (xx : (Int × Unit)) => True, fun (xx : (Int × Unit)) => (0, false, ())).2) x.2.1))])) (fun t34_1 hb => hC [1, 1, 1, 1, 0, 1, 0] ([(2, .d false .int x.2.2.1), (32, .own 29 0), (33, .d true .int (List.length (visits x.1 (frcOf (fun (xx : (Int × Unit)) => True, fun (xx : (Int × Unit)) => (0, false, ())).2) x.2.1) : Int)), (34, .d true .int t34_1)], [(29, .sl true tVis (visits x.1 (frcOf (fun (xx : (Int × Unit)) => True, fun (xx : (Int × Unit)) => (0, false, ())).2) x.2.1))]) (Eq.mpr (by kernel_rfl) hb))
  exact Eq.mpr (by kernel_rfl) h0
theorem cBefore1_ok : ConOK Go.Proofs.Try.prog 52 cBefore1 := by
  refine cBefore1_law ?_
  intro p in_ line hw Λ1 h1
  unfold cBefore1_0
  refine ⟨trivial, ?_⟩
  show if (err1 p in_ != 0) = true then _ else _
  by_cases h : err1 p in_ = 0
  · rw [if_neg (by simp [h])]
    have g := err1_ok h
    have h8 := (validP_ok g.1).1
    have hl := visits_len p noFrc in_
    refine ⟨by unfold inI; omega, trivial, ?_⟩
    show if (!(inL p line)) = true then _ else _
    cases hL : inL p line
    · rw [if_pos (by rfl), if_pos h]
      unfold befS wasS befE
      rw [hL, if_pos h]
      exact ⟨by simp, by simp, by simp, trivial⟩
    · rw [if_neg (by simp)]
      refine ⟨⟨g.1, g.2, fun _ => trivial⟩, ?_⟩
      refine upto (n := (visits p noFrc in_).length) (Q := fun i => ((visits p noFrc in_).take i).any (fun v => v.1 == line) = false → Λ1 (i : Int)) ?_ ?_ 0 (Nat.zero_le _) rfl
      · intro ha
        rw [List.take_length] at ha
        apply h1; unfold cBefore1_1
        show if (decide (((visits p noFrc in_).length : Int) < ((visits p noFrc in_).length : Int))) = true then _ else _
        rw [if_neg (by simp), if_pos h]
        unfold befS wasS befE fndV
        rw [hL, if_pos h, find_none ha]
        exact ⟨by simp, by simp, by simp, trivial⟩
      · intro i hi ih ha
        apply h1; unfold cBefore1_1
        show if (decide ((i : Int) < ((visits p noFrc in_).length : Int))) = true then _ else _
        rw [if_pos (by simpa using hi), Int.toNat_natCast]
        refine ⟨idx_nat hi, ?_⟩
        show if ((List.getD (visits p noFrc in_) i tVis.dflt).1 == line) = true then _ else _
        cases hv : ((List.getD (visits p noFrc in_) i tVis.dflt).1 == line)
        · rw [if_neg (by simp)]
          exact ⟨inI_succ hi (by omega), ih (any_take_next (p := fun v : Vst => v.1 == line) tVis.dflt hi ha hv)⟩
        · rw [if_pos (by rfl)]
          have hf : (visits p noFrc in_).find? (fun v => v.1 == line) = some (List.getD (visits p noFrc in_) i tVis.dflt) := find_take (q := fun v : Vst => v.1 == line) tVis.dflt hi ha hv
          have hs4 := validS_len (visits_ok g.2 _ (mem_getD (d := tVis.dflt) hi)).2.2
          unfold befS wasS befE fndV
          rw [hL, if_pos h, if_pos h, hf]
          exact ⟨trivial, by show (List.getD (visits p noFrc in_) i tVis.dflt).2.1.length ≤ 1000000; omega, by simp; rfl, by simp [h], by simp, trivial⟩
  · rw [if_pos (by simpa using h), if_neg h]
    have hb : (err1 p in_ == 0) = false := by simpa using h
    unfold befE
    rw [hb, if_neg h]
    exact ⟨rfl, rfl, rfl, trivial⟩
abbrev cBefore6 : Con := { A := (.cons (.sl tL) (.cons (.sl tR) (.cons .int .nil))), R := (.cons (.sl tR) (.cons .bool (.cons .int .nil))), pre := fun x => True, F := fun x => ((if err6 x.1 x.2.1 = 0 then bef6 x.1 x.2.1 x.2.2.1 else []), (err6 x.1 x.2.1 == 0 && was6 x.1 x.2.1 x.2.2.1), bef6E x.1 x.2.1 x.2.2.1, ()) }
def cBefore6_0  (p : (List Lin)) (b : (List Rng)) (line : Int) (y0 : (List Rng)) (y1 : Bool) (y2 : Int) : Prop :=
  True ∧ (if (((if validP p = 0 then argErr (validB b) else validP p)) != (0 : Int)) = true then (([] : List Rng) = y0 ∧ false = y1 ∧ ((if validP p = 0 then argErr (validB b) else validP p)) = y2 ∧ True) else (inI ((List.length p : Int) - (1 : Int)) ∧ (True ∧ (if (!(within line (0 : Int) ((List.length p : Int) - (1 : Int)))) = true then (([] : List Rng) = y0 ∧ false = y1 ∧ (4 : Int) = y2 ∧ True) else ((validP p = 0 ∧ validB b = true) ∧ (idx line (List.length (spans p b) : Int) ∧ ((List.getD (spans p b) (Int.toNat line) tSpot.dflt).2.1 = y0 ∧ ((List.getD (spans p b) (Int.toNat line) tSpot.dflt).1).1 = y1 ∧ (0 : Int) = y2 ∧ True)))))))
theorem cBefore6_law (h : ∀ (p : (List Lin)) (b : (List Rng)) (line : Int), cBefore6.A.wf (p, b, line, ()) → cBefore6_0  p b line (if err6 p b = 0 then bef6 p b line else []) (err6 p b == 0 && was6 p b line) (bef6E p b line)) : ConOK Go.Proofs.Try.prog 21 cBefore6 := by
  refine lawL (Γ := [(62, cChecked), (67, cSpans), (66, cWithin6)]) (Θ := Th) (n := 34) [] ⟨cChecked_ok, cSpans_ok, cWithin6_ok, trivial⟩ (by kernel_rfl) th_ok mix_ok Go.Proofs.Try.func21 (by kernel_rfl) ?_
  intro x hw hp Λ hC
  have h0 := h x.1 x.2.1 x.2.2.1 hw  
  exact Eq.mpr (by kernel_rfl) h0
theorem cBefore6_ok : ConOK Go.Proofs.Try.prog 21 cBefore6 := by
  refine cBefore6_law ?_
  intro p b line hw
  unfold cBefore6_0
  refine ⟨trivial, ?_⟩
  show if (err6 p b != 0) = true then _ else _
  by_cases h : err6 p b = 0
  · rw [if_neg (by simp [h])]
    obtain ⟨g1, g2⟩ := err6_ok h
    obtain ⟨h8, hall⟩ := validP_ok g1
    have ho := (spansTo_ok hall g2 p.length (Nat.le_refl _)).1
    refine ⟨by unfold inI; omega, trivial, ?_⟩
    show if (!(inL p line)) = true then _ else _
    cases hL : inL p line
    · rw [if_pos (by rfl), if_pos h]
      unfold bef6 was6 bef6E
      rw [hL, if_pos h]
      exact ⟨by simp, by simp, by simp, trivial⟩
    · rw [if_neg (by simp)]
      have hr := within_iff.1 (show within line 0 ((p.length : Int) - 1) = true from hL)
      unfold bef6 was6 bef6E
      rw [hL, if_pos h, if_pos h]
      refine ⟨⟨g1, g2⟩, ⟨hr.1, ?_⟩, ?_, ?_, by simp, trivial⟩
      · show line < ((spansTo p b p.length).length : Int)
        rw [ho]; omega
      · simp
      · simp [h]
  · rw [if_pos (by simpa using h), if_neg h]
    have hb : (err6 p b == 0) = false := by simpa using h
    unfold bef6E
    rw [hb, if_neg h]
    exact ⟨rfl, rfl, rfl, trivial⟩
abbrev cSpanHolds : Con := { A := (.cons (.sl tL) (.cons (.sl tR) (.cons (.sl .int) .nil))), R := (.cons .bool .nil), pre := fun x => True, F := fun x => (true, ()) }
def cSpanHolds_0 (Λ1 : Int → Prop) (p : (List Lin)) (b : (List Rng)) (in_ : (List Int)) (y0 : Bool) : Prop :=
  True ∧ (if (decide (100 < p.length)) = true then (true = true ∧ (true = true ∧ (True ∧ (true = y0 ∧ True)))) else (True ∧ (True ∧ (if (bif false then true else (decide (100 < b.length))) = true then (true = true ∧ (True ∧ (true = y0 ∧ True))) else (True ∧ (True ∧ (if (bif false then true else (decide (100 < in_.length))) = true then (True ∧ (true = y0 ∧ True)) else (True ∧ (True ∧ (True ∧ (True ∧ (if ((argErr (hasOK b in_)) != (0 : Int)) = true then (true = true ∧ (true = true ∧ (True ∧ (true = y0 ∧ True)))) else (True ∧ (if (bif false then true else ((err1 p in_) != (0 : Int))) = true then (true = true ∧ (True ∧ (true = y0 ∧ True))) else (True ∧ (if (bif false then true else (!(hasOK b in_ && hasB b in_))) = true then (True ∧ (true = y0 ∧ True)) else (if ((err1 p in_) != (0 : Int)) = true then (true = true ∧ (true = true ∧ (false = y0 ∧ True))) else (True ∧ (if (bif false then true else ((err6 p b) != (0 : Int))) = true then (true = true ∧ (false = y0 ∧ True)) else (True ∧ (if (bif false then true else (decide ((List.length ((if err1 p in_ = 0 then doneS p in_ else [])) : Int) > (List.length p : Int)))) = true then (false = y0 ∧ True) else Λ1 (0 : Int))))))))))))))))))))))
def cSpanHolds_1 (Λ1 : Int → Prop) (p : (List Lin)) (b : (List Rng)) (in_ : (List Int)) (y0 : Bool)  (i_1 : Int) : Prop :=
  if (decide (i_1 < (List.length ((if err1 p in_ = 0 then doneS p in_ else [])) : Int))) = true then (idx i_1 (List.length ((if err1 p in_ = 0 then doneS p in_ else [])) : Int) ∧ (True ∧ (idx i_1 (List.length ((if err1 p in_ = 0 then doneS p in_ else [])) : Int) ∧ (True ∧ (if ((befE p in_ (List.getD ((if err1 p in_ = 0 then doneS p in_ else [])) (Int.toNat i_1) 0)) != (0 : Int)) = true then (true = true ∧ (true = true ∧ (true = true ∧ (false = y0 ∧ True)))) else (True ∧ (if (bif false then true else (!((err1 p in_ == 0 && wasS p in_ (List.getD ((if err1 p in_ = 0 then doneS p in_ else [])) (Int.toNat i_1) 0))))) = true then (true = true ∧ (true = true ∧ (false = y0 ∧ True))) else (True ∧ (if (bif false then true else ((bef6E p b (List.getD ((if err1 p in_ = 0 then doneS p in_ else [])) (Int.toNat i_1) 0)) != (0 : Int))) = true then (true = true ∧ (false = y0 ∧ True)) else (True ∧ (if (bif false then true else (!((err6 p b == 0 && was6 p b (List.getD ((if err1 p in_ = 0 then doneS p in_ else [])) (Int.toNat i_1) 0))))) = true then (false = y0 ∧ True) else (True ∧ (if ((argErr (hasOK ((if err6 p b = 0 then bef6 p b (List.getD ((if err1 p in_ = 0 then doneS p in_ else [])) (Int.toNat i_1) 0) else [])) ((if err1 p in_ = 0 then befS p in_ (List.getD ((if err1 p in_ = 0 then doneS p in_ else [])) (Int.toNat i_1) 0) else [])))) != (0 : Int)) = true then (true = true ∧ (false = y0 ∧ True)) else (True ∧ (if (bif false then true else (!(hasOK ((if err6 p b = 0 then bef6 p b (List.getD ((if err1 p in_ = 0 then doneS p in_ else [])) (Int.toNat i_1) 0) else [])) ((if err1 p in_ = 0 then befS p in_ (List.getD ((if err1 p in_ = 0 then doneS p in_ else [])) (Int.toNat i_1) 0) else [])) && hasB ((if err6 p b = 0 then bef6 p b (List.getD ((if err1 p in_ = 0 then doneS p in_ else [])) (Int.toNat i_1) 0) else [])) ((if err1 p in_ = 0 then befS p in_ (List.getD ((if err1 p in_ = 0 then doneS p in_ else [])) (Int.toNat i_1) 0) else []))))) = true then (false = y0 ∧ True) else (inI (i_1 + (1 : Int)) ∧ Λ1 (i_1 + (1 : Int)))))))))))))))))) else (True ∧ (if ((argErr (hasOK ((if err6 p b = 0 then afterB p b else [])) ((if err1 p in_ = 0 then runS p in_ else [])))) == (0 : Int)) = true then (True ∧ (if (bif true then (hasOK ((if err6 p b = 0 then afterB p b else [])) ((if err1 p in_ = 0 then runS p in_ else [])) && hasB ((if err6 p b = 0 then afterB p b else [])) ((if err1 p in_ = 0 then runS p in_ else []))) else false) = true then (True ∧ (True ∧ ((bif true then true else false) = y0 ∧ True))) else (false = false ∧ (false = y0 ∧ True)))) else (false = false ∧ (false = false ∧ (false = y0 ∧ True)))))
theorem cSpanHolds_law (h : ∀ (p : (List Lin)) (b : (List Rng)) (in_ : (List Int)), cSpanHolds.A.wf (p, b, in_, ()) → ∀ (Λ1 : Int → Prop), (∀ (i_1 : Int), cSpanHolds_1 Λ1 p b in_ true i_1 → Λ1 i_1) → cSpanHolds_0 Λ1 p b in_ true) : ConOK Go.Proofs.Try.prog 12 cSpanHolds := by
  refine lawL (Γ := [(19, cAfter), (52, cBefore1), (21, cBefore6), (51, cDone), (33, cHas), (18, cKnown6), (30, cLarge6), (17, cLongB), (16, cLongL), (50, cRun)]) (Θ := Th) (n := 153) [([1, 1, 1, 1, 1, 1, 1, 1, 0, 1, 0], ⟨[(0, false), (1, false), (2, false), (9, true), (11, true), (13, true), (15, true)], [(52, true)]⟩)] ⟨cAfter_ok, cBefore1_ok, cBefore6_ok, cDone_ok, cHas_ok, cKnown6_ok, cLarge6_ok, cLongB_ok, cLongL_ok, cRun_ok, trivial⟩ (by kernel_rfl) th_ok mix_ok Go.Proofs.Try.func12 (by kernel_rfl) ?_
  intro x hw hp Λ hC
  have h0 := h x.1 x.2.1 x.2.2.1 hw (fun i_1 => Λ [1, 1, 1, 1, 1, 1, 1, 1, 0, 1, 0] ([(0, .d false (.sl tL) x.1), (1, .d false (.sl tR) x.2.1), (2, .d false (.sl .int) x.2.2.1), (9, .d true (.sl .int) ((if err1 x.1 x.2.2.1 = 0 then doneS x.1 x.2.2.1 else []))), (11, .own 52 0), (13, .d true (.sl tR) ((if err6 x.1 x.2.1 = 0 then afterB x.1 x.2.1 else []))), (15, .d true .int i_1)], [(52, .sl true .int ((if err1 x.1 x.2.2.1 = 0 then runS x.1 x.2.2.1 else [])))])) (fun i_1 hb => hC [1, 1, 1, 1, 1, 1, 1, 1, 0, 1, 0] ([(0, .d false (.sl tL) x.1), (1, .d false (.sl tR) x.2.1), (2, .d false (.sl .int) x.2.2.1), (9, .d true (.sl .int) ((if err1 x.1 x.2.2.1 = 0 then doneS x.1 x.2.2.1 else []))), (11, .own 52 0), (13, .d true (.sl tR) ((if err6 x.1 x.2.1 = 0 then afterB x.1 x.2.1 else []))), (15, .d true .int i_1)], [(52, .sl true .int ((if err1 x.1 x.2.2.1 = 0 then runS x.1 x.2.2.1 else [])))]) (Eq.mpr (by kernel_rfl) hb))
  exact Eq.mpr (by kernel_rfl) h0
theorem cSpanHolds_ok : ConOK Go.Proofs.Try.prog 12 cSpanHolds := by
  refine cSpanHolds_law ?_
  intro p b in_ hw Λ1 h1
  unfold cSpanHolds_0
  by_cases c1 : 100 < p.length
  · simp [c1]
  by_cases c2 : 100 < b.length
  · simp [c1, c2]
  by_cases c3 : 100 < in_.length
  · simp [c1, c2, c3]
  cases hk : hasOK b in_
  · simp [c1, c2, c3, hk, argErr]
  by_cases e1 : err1 p in_ = 0
  · cases hi : hasB b in_
    · simp [c1, c2, c3, hk, e1, hi, argErr]
    obtain ⟨vb, vs⟩ := hasOK_iff.1 hk
    obtain ⟨p1, _⟩ := err1_ok e1
    obtain ⟨h8, hall⟩ := validP_ok p1
    have e6 : err6 p b = 0 := by unfold err6; rw [if_pos p1, vb]; rfl
    have hdl := doneS_len6 p in_
    have hvl := visits_len p noFrc in_
    have hΛ : Λ1 0 := by
      refine upto (n := (doneS p in_).length) (Q := fun i => Λ1 (i : Int)) ?_ ?_ 0 (Nat.zero_le _)
      · apply h1; unfold cSpanHolds_1
        have ho : hasOK (afterB p b) (runS p in_) = true := hasOK_iff.2 ⟨afterB_ok hall vb, runS_ok vs⟩
        have hh := end_in hall vb vs hi
        rw [if_pos e1, if_neg (by simp)]
        simp [e1, e6, ho, hh, argErr]
      · intro i hi' ih
        apply h1; unfold cSpanHolds_1
        rw [if_pos e1, if_pos (by simpa using hi'), Int.toNat_natCast]
        have hd : (doneS p in_).getD i 0 ∈ doneS p in_ := mem_getD hi'
        generalize (doneS p in_).getD i 0 = d at hd
        have hfs : ∃ v, fndV p in_ d = some v ∧ v ∈ visits p noFrc in_ ∧ v.1 = d := by
          unfold doneS at hd
          obtain ⟨v, hv, rfl⟩ := List.mem_map.1 hd
          cases hf : fndV p in_ v.1 with
          | none =>
            unfold fndV at hf
            rw [List.find?_eq_none] at hf
            exact absurd (show (v.1 == v.1) = true by simp) (hf v hv)
          | some u =>
            unfold fndV at hf
            exact ⟨u, rfl, List.mem_of_find?_eq_some hf, by have := List.find?_some hf; simpa using this⟩
        obtain ⟨v, hf, hv, rfl⟩ := hfs
        have hin := visits_ok vs v hv
        have hL : inL p v.1 = true := within_iff.2 ⟨hin.1, by omega⟩
        obtain ⟨r1, r2, r3, r4⟩ := visit_in hall vb vs hi hv
        have q1 : befE p in_ v.1 = 0 := by unfold befE; rw [if_pos e1, if_pos hL]
        have q2 : wasS p in_ v.1 = true := by unfold wasS; rw [hL, hf]; rfl
        have q3 : befS p in_ v.1 = v.2.1 := by unfold befS; rw [if_pos hL, hf]
        have q4 : bef6E p b v.1 = 0 := by unfold bef6E; rw [if_pos e6, if_pos hL]
        have q5 : was6 p b v.1 = true := by unfold was6; rw [hL, r1]; rfl
        have q6 : bef6 p b v.1 = ((spans p b).getD v.1.toNat dSpot).2.1 := by unfold bef6; rw [if_pos hL]
        have ho : hasOK ((spans p b).getD v.1.toNat dSpot).2.1 v.2.1 = true := hasOK_iff.2 ⟨r2, r4⟩
        have in1 : inI ((i : Int) + 1) := inI_succ hi' (by omega)
        have ix : idx (i : Int) ((doneS p in_).length : Int) := idx_nat hi'
        simp only [q1, q2, q3, q4, q5, q6, e1, e6, if_true, ho, r3]
        simp [argErr, ix, in1]
        exact ih
    have hg : ¬ ((doneS p in_).length > p.length) := by omega
    simp [c1, c2, c3, hk, e1, e6, hi, argErr, hΛ]
    omega
  · simp [c1, c2, c3, hk, e1, argErr]
end Go.Tk
